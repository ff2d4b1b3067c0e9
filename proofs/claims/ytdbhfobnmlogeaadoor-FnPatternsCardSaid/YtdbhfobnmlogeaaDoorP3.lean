import Derived.Test.YtdbhfobnmlogeaaDoorP2
import Derived.Test.YtdbhfobnmlogeaaDoorVT
import Derived.Lib.SplitLaws
set_option linter.unusedVariables false
set_option linter.unusedSimpArgs false
/- Contracts: the nearest pattern, both sides, and the law. -/
set_option linter.unusedVariables false
set_option linter.unusedSimpArgs false
namespace Go.V
/- Words for the walks of this text: their default arguments are tried where they are used. -/
theorem go_D2 {P Q : Prop} (k : Q) (h : P := by first  | exact rfl | decide | omega | (simp [splice]; done) | (constructor <;> omega) | (simp [splice]; omega)) : P ∧ Q := ⟨h, k⟩
theorem lk_D2 {α : Type} {o : Option α} {K : α → Prop} {x : α} (k : K x) (h : o = some x := by first | exact strA (by omega) | exact strA' (by omega) | exact intA (by omega) | exact intA' (by omega)) : optK o K := optK_of h k
theorem sc_D2 {P : Program} {g : FuncId} {args args' : List D} {res : D} (h : Sat P g args res) (e : args' = args := by repeat (first | rfl | exact vfull (by first | (simp [splice]; done) | (simp [splice]; omega)) | exact rfull (by first | (simp [splice]; done) | (simp [splice]; omega)) | exact vrefS (by simp) | exact vplace (by simp; done) (by omega) | exact vrow (by simp; done) (by omega) | exact vtiles (by simp) | exact vsplice (by simp) (by simp) | refine ceq ?_ ?_ | refine Eq.trans (vsplice (by first | (simp; done) | (simp; omega)) (by first | (simp; done) | (simp; omega))) ?_)) : Sat P g args' res := Sat.of_eq h e
theorem leaf_D2 {P : Prop} (h : P := by first | rfl | exact succ8 (by omega) | exact succ64 (by omega) | exact CapOk.fn (by assumption) _ _ | exact vintS (by omega) | exact vintS (by rw [w64 (by omega) (by omega)]; omega) | exact vintS (by rw [w8 (by omega) (by omega)]; omega) | exact vslcS (by omega) | exact vslcS (by simp)) : P := h
theorem hold_D2 {P : Prop} (h : P := by (repeat' (first | exact trivial | apply And.intro)) <;> (first | rfl | exact succ8 (by omega) | exact succ64 (by omega) | exact CapOk.fn (by assumption) _ _ | exact vintS (by omega) | exact vintS (by rw [w64 (by omega) (by omega)]; omega) | exact vintS (by rw [w8 (by omega) (by omega)]; omega) | exact vslcS (by omega) | exact vslcS (by simp))) : P := h
theorem okt_D2 {P : Prop} (h : P := by first | omega | (dsimp only; omega) | ((repeat' apply And.intro) <;> omega) | (dsimp only; (repeat' apply And.intro) <;> omega) | trivial) : P := h
end Go.V
namespace Go.V
theorem vrefS {a b : List Value} (h : a.length = b.length) : D.ref false (.v (.agg ⟨splice a 0 b⟩)) 0 = .ref false (.v (.agg ⟨b⟩)) 0 := by rw [splice_all h]
abbrev Near := Int × Int × Int
def nStep (o : Int) (i s : Nat) (t : Near) : Near := if o < t.2.2 then (i, s, o) else t
def nIn (o : Nat → Int) (i : Nat) (t : Near) : Nat → Near
  | 0 => t
  | k + 1 => nStep (o k) i k (nIn o i t k)
def nOut (o : Nat → Nat → Int) (n : Nat → Nat) : Nat → Near
  | 0 => (0, 0, 65)
  | i + 1 => nIn (o i) i (nOut o n i) (n i)
theorem nStep_le {o : Int} {i s : Nat} {t : Near} : (nStep o i s t).2.2 ≤ t.2.2 ∧ (nStep o i s t).2.2 ≤ o := by
  unfold nStep; split <;> simp <;> omega
theorem nStep_ge {o : Int} {i s : Nat} {t : Near} (ho : 0 ≤ o) (ht : 0 ≤ t.2.2) : 0 ≤ (nStep o i s t).2.2 := by
  unfold nStep; split
  · exact ho
  · exact ht
theorem nIn_in {o : Nat → Int} (ho : ∀ k, 0 ≤ o k ∧ o k ≤ 64) {i : Nat} {t : Near} (ht : 0 ≤ t.2.2 ∧ t.2.2 ≤ 65) : ∀ k, 0 ≤ (nIn o i t k).2.2 ∧ (nIn o i t k).2.2 ≤ 65
  | 0 => ht
  | k + 1 => by
    have ih := nIn_in ho (i := i) ht k
    have := nStep_le (o := o k) (i := i) (s := k) (t := nIn o i t k)
    have := nStep_ge (i := i) (s := k) (ho k).1 ih.1
    simp only [nIn]; omega
theorem nIn_pos {o : Nat → Int} (ho : ∀ k, 0 ≤ o k ∧ o k ≤ 64) {i : Nat} {t : Near} {k : Nat} (hk : 0 < k) : (nIn o i t k).2.2 ≤ 64 := by
  obtain ⟨k, rfl⟩ : ∃ j, k = j + 1 := ⟨k - 1, by omega⟩
  have := nStep_le (o := o k) (i := i) (s := k) (t := nIn o i t k)
  have := ho k
  simp only [nIn]; omega
theorem nOut_in {o : Nat → Nat → Int} (ho : ∀ i k, 0 ≤ o i k ∧ o i k ≤ 64) {n : Nat → Nat} : ∀ i, 0 ≤ (nOut o n i).2.2 ∧ (nOut o n i).2.2 ≤ 65
  | 0 => by simp [nOut]
  | i + 1 => nIn_in (ho i) (nOut_in ho i) _
/-- What the reference holds for least. -/
def lst (t : Near) : Int := if t.2.2 = 65 then -1 else t.2.2
def offN (r : Roof) (f : Nat → Int) (ws : List ByteArray) (i s : Nat) : Int := cntC (xorR (patR r (sx ws i) s) f) 8
theorem offN_in (r : Roof) (f : Nat → Int) (ws : List ByteArray) (i s : Nat) : 0 ≤ offN r f ws i s ∧ offN r f ws i s ≤ 64 := by
  have := cntC_bound (xorR_in (patR r (sx ws i) s) f) 8
  unfold offN; omega
theorem xorR_comm (f g : Nat → Int) : xorR f g = xorR g f := by
  funext i; unfold xorR; rw [BitVec.xor_comm]
def nearT (r : Roof) (f : Nat → Int) (ws : List ByteArray) : Near := nOut (offN r f ws) (fun i => (sx ws i).size) ws.length
def nearK (r : Roof) (f : Nat → Int) (ws : List ByteArray) : Int := if (okC r f && ws.all okW) = true then (if (ws.length : Int) > 20 then 3 else if (ws.length : Int) = 0 then 6 else 0) else 1
def nearD (r : Roof) (f : Nat → Int) (ws : List ByteArray) : Near := if nearK r f ws = 0 then nearT r f ws else (0, 0, 0)
def nearV (r : Roof) (f : Nat → Int) (ws : List ByteArray) : D := .tup [.v (.int .i64 (nearD r f ws).1), .v (.int .i64 (nearD r f ws).2.1), .v (.int .i64 (nearD r f ws).2.2), .v (.int .i64 (nearK r f ws))]
theorem nearV_err {r : Roof} {f : Nat → Int} {ws : List ByteArray} {k : Int} (h : nearK r f ws = k) (hk : k ≠ 0) : nearV r f ws = .tup [.v (.int .i64 0), .v (.int .i64 0), .v (.int .i64 0), .v (.int .i64 k)] := by
  unfold nearV nearD
  rw [h, if_neg hk]
theorem all_sx {ws : List ByteArray} {p : ByteArray → Bool} : ws.all p = true ↔ ∀ i, i < ws.length → p (sx ws i) = true := by
  rw [List.all_eq_true]
  constructor
  · intro h i hi
    exact h _ (sx_mem hi)
  · intro h x hx
    obtain ⟨i, hi, rfl⟩ := List.getElem_of_mem hx
    have := h i hi
    unfold sx at this
    rw [List.getD_eq_getElem?_getD] at this
    simpa [hi] using this
/-- The first string that is not as told. -/
def idxS (p : ByteArray → Bool) (ws : List ByteArray) : Int := match (List.range ws.length).find? (fun i => p (sx ws i)) with | some i => (i : Int) | none => -1
theorem idxS_some {p : ByteArray → Bool} {ws : List ByteArray} {i : Nat} (hi : i < ws.length) (h : p (sx ws i) = true) (hall : ∀ j, j < i → p (sx ws j) = false) : idxS p ws = i := by
  have := find_some (p := fun i => p (sx ws i)) hi h hall
  unfold idxS; rw [this]
theorem idxS_none {p : ByteArray → Bool} {ws : List ByteArray} (hall : ∀ j, j < ws.length → p (sx ws j) = false) : idxS p ws = -1 := by
  have := find_none (p := fun i => p (sx ws i)) hall
  unfold idxS; rw [this]
theorem idxS_any (p : ByteArray → Bool) (ws : List ByteArray) : (!decide (idxS (fun x => !p x) ws ≥ 0)) = ws.all p := by
  cases h : ws.all p
  · rw [Bool.not_eq_false']
    unfold idxS
    cases hf : (List.range ws.length).find? (fun i => !p (sx ws i)) with
    | none =>
      exfalso
      rw [List.find?_eq_none] at hf
      have : ws.all p = true := all_sx.2 fun i hi => by
        have := hf i (by simpa using hi)
        simpa using this
      rw [this] at h; cases h
    | some i => simp
  · rw [idxS_none fun j hj => by rw [all_sx.1 h j hj]; rfl]
    rfl
end Go.V
namespace Go.Proofs.YtdbhfobnmlogeaaDoor
open Go.V
theorem notPS_sat {g : Nat} {x : ByteArray} {y : Bool} (hg : Sat Tryd.prog g [.v (.string x)] (.v (.bool y))) :
    Sat Tryd.prog 152 [.v (.string x), .ref false (.agg [.fn (.func g) [] []]) 0] (.v (.bool (!y))) := by
  refine sat_of_wp hMix tOk Tryd.func152 rfl rfl Tryd.ntmps152 rfl rfl Tryd.results152 (by kernel_rfl) ?_
  conv => whnf
  repeat (first | (refine go_D2 ?_; conv => whnf) | (refine lk_D2 ?_; conv => whnf))
  first | refine ⟨_, _, rfl, sc_D2 (hg), ?_⟩ | refine .inl ⟨_, _, rfl, sc_D2 (hg), ?_⟩
  conv => whnf
  repeat (first | (refine go_D2 ?_; conv => whnf) | (refine lk_D2 ?_; conv => whnf))
  first | refine ⟨rfl, _, rfl, ?_⟩ | refine ⟨_, rfl, ?_⟩
  rfl
theorem indexFuncS_sat {g : Nat} {p : ByteArray → Bool} (ws : List ByteArray) (hl : ws.length ≤ 1048576) (m : Bool) (hg : ∀ i, i < ws.length → Sat Tryd.prog g [.v (.string (sx ws i))] (.v (.bool (p (sx ws i))))) :
    Sat Tryd.prog 166 [strsD m ws, .fn (.func 152) [] [.ref false (.agg [.fn (.func g) [] []]) 0]] (.v (.int .i64 (idxS (fun x => !p x) ws))) := by
  refine sat_of_wp hMix tOk Tryd.func166 rfl rfl Tryd.ntmps166 rfl rfl Tryd.results166 (by kernel_rfl) ?_
  conv => whnf
  repeat (first | (refine go_D2 ?_; conv => whnf) | (refine lk_D2 ?_; conv => whnf))
  refine loop_rule (α := Nat) (fun i => [(0, strsD m ws), (1, .fn (.func 152) [] [.ref false (.agg [.fn (.func g) [] []]) 0]), (7, .v (.int .i64 ws.length)), (8, .v (.int .i64 i))]) (fun i => []) (fun i => i ≤ ws.length ∧ ∀ j, j < i → p (sx ws j) = true) (fun i => ws.length - i) (0) ?_ (sim_of (rn := []) rfl ?_ ?_) ?_
  · exact ⟨Nat.zero_le _, fun j hj => by omega⟩
  · exact hold_D2
  · ((repeat' (first | exact trivial | apply And.intro)) <;> ((first | refine ⟨_, _, rfl, rfl, ?_⟩ ); rfl))
  rintro i ⟨hi, hall⟩
  conv => whnf
  repeat (first | (refine go_D2 ?_; conv => whnf) | (refine lk_D2 ?_; conv => whnf))
  cases h : decide ((i : Int) < (ws.length : Int))
  · have hin : i = ws.length := by simp at h; omega
    subst hin
    rw [idxS_none fun j hj => by rw [hall j hj]; rfl]
    conv => whnf
    repeat (first | (refine go_D2 ?_; conv => whnf) | (refine lk_D2 ?_; conv => whnf))
    first | refine ⟨rfl, _, rfl, ?_⟩ | refine ⟨_, rfl, ?_⟩
    rfl
  have hin : i < ws.length := by simpa using h
  conv => whnf
  repeat (first | (refine go_D2 ?_; conv => whnf) | (refine lk_D2 ?_; conv => whnf))
  first | refine ⟨_, _, rfl, sc_D2 (notPS_sat (hg i hin)), ?_⟩ | refine .inl ⟨_, _, rfl, sc_D2 (notPS_sat (hg i hin)), ?_⟩
  conv => whnf
  repeat (first | (refine go_D2 ?_; conv => whnf) | (refine lk_D2 ?_; conv => whnf))
  cases h5 : p (sx ws i)
  · rw [idxS_some hin (by rw [h5]; rfl) fun j hj => by rw [hall j hj]; rfl]
    conv => whnf
    repeat (first | (refine go_D2 ?_; conv => whnf) | (refine lk_D2 ?_; conv => whnf))
    first | refine ⟨rfl, _, rfl, ?_⟩ | refine ⟨_, rfl, ?_⟩
    rfl
  have hall' := below_succ (p := fun j => p (sx ws j) = true) hall h5
  conv => whnf
  repeat (first | (refine go_D2 ?_; conv => whnf) | (refine lk_D2 ?_; conv => whnf))
  refine ⟨i + 1, ?_, ?_, sim_of (rn := []) rfl ?_ ?_⟩
  · (dsimp only; omega)
  · exact ⟨by omega, hall'⟩
  · exact hold_D2
  · ((repeat' (first | exact trivial | apply And.intro)) <;> ((first | refine ⟨_, _, rfl, rfl, ?_⟩ ); rfl))
theorem areAllS_sat {g : Nat} {p : ByteArray → Bool} (ws : List ByteArray) (hl : ws.length ≤ 1048576) (m : Bool) (hg : ∀ i, i < ws.length → Sat Tryd.prog g [.v (.string (sx ws i))] (.v (.bool (p (sx ws i))))) :
    Sat Tryd.prog 109 [strsD m ws, .fn (.func g) [] []] (.v (.bool (ws.all p))) := by
  have hc : Sat Tryd.prog 151 [strsD false ws, .fn (.func 152) [] [.ref false (.agg [.fn (.func g) [] []]) 0]] (.v (.bool (decide (idxS (fun x => !p x) ws ≥ 0)))) := by
    refine sat_of_wp hMix tOk Tryd.func151 rfl rfl Tryd.ntmps151 rfl rfl Tryd.results151 (by kernel_rfl) ?_
    conv => whnf
    repeat (first | (refine go_D2 ?_; conv => whnf) | (refine lk_D2 ?_; conv => whnf))
    first | refine ⟨_, _, rfl, sc_D2 (indexFuncS_sat ws hl false hg), ?_⟩ | refine .inl ⟨_, _, rfl, sc_D2 (indexFuncS_sat ws hl false hg), ?_⟩
    conv => whnf
    repeat (first | (refine go_D2 ?_; conv => whnf) | (refine lk_D2 ?_; conv => whnf))
    first | refine ⟨rfl, _, rfl, ?_⟩ | refine ⟨_, rfl, ?_⟩
    rfl
  refine sat_of_wp hMix tOk Tryd.func109 rfl rfl Tryd.ntmps109 rfl rfl Tryd.results109 (by kernel_rfl) ?_
  conv => whnf
  repeat (first | (refine go_D2 ?_; conv => whnf) | (refine lk_D2 ?_; conv => whnf))
  first | refine ⟨_, _, rfl, sc_D2 (hc), ?_⟩ | refine .inl ⟨_, _, rfl, sc_D2 (hc), ?_⟩
  conv => whnf
  repeat (first | (refine go_D2 ?_; conv => whnf) | (refine lk_D2 ?_; conv => whnf))
  first | refine ⟨rfl, _, rfl, ?_⟩ | refine ⟨_, rfl, ?_⟩
  skip
  rw [← idxS_any]; rfl
theorem specNearest_sat (r : Roof) (hr : r.In) (f : Nat → Int) (hf : RowIn f) (ws : List ByteArray) (hl : ws.length ≤ 1048576) (hz : ∀ i, i < ws.length → (sx ws i).size ≤ 1048576) (m : Bool) : Sat Tryd.prog 50 [roofD r, row8D f, strsD m ws] (nearV r f ws) := by
  refine sat_of_wp hMix tOk Tryd.func50 rfl rfl Tryd.ntmps50 rfl rfl Tryd.results50 (by kernel_rfl) ?_
  conv => whnf
  repeat (first | (refine go_D2 ?_; conv => whnf) | (refine lk_D2 ?_; conv => whnf))
  first | refine ⟨_, _, rfl, sc_D2 (l07Colours_sat r hr f hf), ?_⟩ | refine .inl ⟨_, _, rfl, sc_D2 (l07Colours_sat r hr f hf), ?_⟩
  conv => whnf
  repeat (first | (refine go_D2 ?_; conv => whnf) | (refine lk_D2 ?_; conv => whnf))
  cases h1 : okC r f
  · rw [nearV_err (k := 1) (by unfold nearK; rw [h1]; rfl) (by decide)]
    conv => whnf
    repeat (first | (refine go_D2 ?_; conv => whnf) | (refine lk_D2 ?_; conv => whnf))
    first | refine ⟨rfl, _, rfl, ?_⟩ | refine ⟨_, rfl, ?_⟩
    rfl
  have hb := okC_bounds h1
  conv => whnf
  repeat (first | (refine go_D2 ?_; conv => whnf) | (refine lk_D2 ?_; conv => whnf))
  refine loop_rule (α := Nat) (fun i => [(2, strsD m ws), (3, .ptr (3, 0, 0) 0), (4, .ptr (4, 0, 0) 0), (10, .v (.int .i64 i))]) (fun i => [((3, 0, 0), roofD r), ((4, 0, 0), row8D f)]) (fun i => i ≤ ws.length ∧ ∀ j, j < i → okW (sx ws j) = true) (fun i => ws.length - i) (0) ?_ (sim_of (rn := [((3, 0, 0), (3, 0, 0)), ((4, 0, 0), (4, 0, 0))]) rfl ?_ ?_) ?_
  · exact ⟨Nat.zero_le _, fun j hj => by omega⟩
  · exact hold_D2
  · ((repeat' (first | exact trivial | apply And.intro)) <;> ((first | refine ⟨_, _, rfl, rfl, ?_⟩ ); rfl))
  rintro i ⟨hi, hall⟩
  conv => whnf
  repeat (first | (refine go_D2 ?_; conv => whnf) | (refine lk_D2 ?_; conv => whnf))
  cases h2 : decide ((i : Int) < (ws.length : Int))
  case true =>
    have hin : i < ws.length := by simpa using h2
    have hzi := hz i hin
    conv => whnf
    repeat (first | (refine go_D2 ?_; conv => whnf) | (refine lk_D2 ?_; conv => whnf))
    first | refine ⟨_, _, rfl, sc_D2 (l07Word_sat (sx ws i) hzi), ?_⟩ | refine .inl ⟨_, _, rfl, sc_D2 (l07Word_sat (sx ws i) hzi), ?_⟩
    conv => whnf
    repeat (first | (refine go_D2 ?_; conv => whnf) | (refine lk_D2 ?_; conv => whnf))
    cases h3 : okW (sx ws i)
    · have : ws.all okW = false := by
        cases ha : ws.all okW
        · rfl
        · rw [all_sx.1 ha i hin] at h3; cases h3
      rw [nearV_err (k := 1) (by unfold nearK; rw [h1, this]; rfl) (by decide)]
      conv => whnf
      repeat (first | (refine go_D2 ?_; conv => whnf) | (refine lk_D2 ?_; conv => whnf))
      first | refine ⟨rfl, _, rfl, ?_⟩ | refine ⟨_, rfl, ?_⟩
      rfl
    have hall' := below_succ (p := fun j => okW (sx ws j) = true) hall h3
    conv => whnf
    repeat (first | (refine go_D2 ?_; conv => whnf) | (refine lk_D2 ?_; conv => whnf))
    refine ⟨i + 1, ?_, ?_, sim_of (rn := [((3, 0, 0), (3, 0, 0)), ((4, 0, 0), (4, 0, 0))]) rfl ?_ ?_⟩
    · (dsimp only; omega)
    · exact ⟨by omega, hall'⟩
    · exact hold_D2
    · ((repeat' (first | exact trivial | apply And.intro)) <;> ((first | refine ⟨_, _, rfl, rfl, ?_⟩ ); rfl))
  have hin : i = ws.length := by simp at h2; omega
  subst hin
  have hok : (okC r f && ws.all okW) = true := by rw [h1, all_sx.2 hall]; rfl
  conv => whnf
  repeat (first | (refine go_D2 ?_; conv => whnf) | (refine lk_D2 ?_; conv => whnf))
  cases h4 : decide ((ws.length : Int) > 20)
  case true =>
    have h4' : (ws.length : Int) > 20 := by simpa using h4
    rw [nearV_err (k := 3) (by unfold nearK; rw [if_pos hok, if_pos h4']) (by decide)]
    conv => whnf
    repeat (first | (refine go_D2 ?_; conv => whnf) | (refine lk_D2 ?_; conv => whnf))
    first | refine ⟨rfl, _, rfl, ?_⟩ | refine ⟨_, rfl, ?_⟩
    rfl
  have h4' : ¬ (ws.length : Int) > 20 := by simpa using h4
  have hoff := offN_in r f ws
  conv => whnf
  repeat (first | (refine go_D2 ?_; conv => whnf) | (refine lk_D2 ?_; conv => whnf))
  refine loop_rule (α := Nat) (fun i => [(2, strsD m ws), (3, .ptr (3, 0, 0) 0), (4, .ptr (4, 0, 0) 0), (11, .v (.int .i64 (nOut (offN r f ws) (fun i => (sx ws i).size) i).1)), (12, .v (.int .i64 (nOut (offN r f ws) (fun i => (sx ws i).size) i).2.1)), (13, .v (.int .i64 (lst (nOut (offN r f ws) (fun i => (sx ws i).size) i)))), (14, .v (.int .i64 i))]) (fun i => [((3, 0, 0), roofD r), ((4, 0, 0), row8D f)]) (fun i => i ≤ ws.length) (fun i => ws.length - i) (0) ?_ (sim_of (rn := [((3, 0, 0), (3, 0, 0)), ((4, 0, 0), (4, 0, 0))]) rfl ?_ ?_) ?_
  · exact okt_D2
  · exact hold_D2
  · ((repeat' (first | exact trivial | apply And.intro)) <;> ((first | refine ⟨_, _, rfl, rfl, ?_⟩ ); rfl))
  intro i hi
  have hoi := nOut_in hoff (n := fun i => (sx ws i).size) i
  conv => whnf
  repeat (first | (refine go_D2 ?_; conv => whnf) | (refine lk_D2 ?_; conv => whnf))
  cases h5 : decide ((i : Int) < (ws.length : Int))
  · have hin : i = ws.length := by simp at h5; omega
    subst hin
    conv => whnf
    repeat (first | (refine go_D2 ?_; conv => whnf) | (refine lk_D2 ?_; conv => whnf))
    cases h6 : decide (lst (nOut (offN r f ws) (fun i => (sx ws i).size) ws.length) < 0)
    case true =>
      have h6' : lst (nOut (offN r f ws) (fun i => (sx ws i).size) ws.length) < 0 := by simpa using h6
      have h0 : (ws.length : Int) = 0 := by
        cases hq : ws.length with
        | zero => rfl
        | succ q =>
          exfalso
          have hs := okW_size (hall q (by omega))
          rw [hq] at h6' hoi
          have h64 : (nOut (offN r f ws) (fun i => (sx ws i).size) (q + 1)).2.2 ≤ 64 := nIn_pos (hoff q) (k := (sx ws q).size) (by omega)
          unfold lst at h6'
          rw [if_neg (by omega)] at h6'
          omega
      rw [nearV_err (k := 6) (by unfold nearK; rw [if_pos hok, if_neg h4', if_pos h0]) (by decide)]
      conv => whnf
      repeat (first | (refine go_D2 ?_; conv => whnf) | (refine lk_D2 ?_; conv => whnf))
      first | refine ⟨rfl, _, rfl, ?_⟩ | refine ⟨_, rfl, ?_⟩
      rfl
    have h6' : ¬ lst (nOut (offN r f ws) (fun i => (sx ws i).size) ws.length) < 0 := by simpa using h6
    have hne : ¬ (ws.length : Int) = 0 := by
      intro h
      have : ws.length = 0 := by omega
      rw [this] at h6'
      exact h6' (show lst (0, 0, 65) < 0 by decide)
    have hk : nearK r f ws = 0 := by unfold nearK; rw [if_pos hok, if_neg h4', if_neg hne]
    have hlst : lst (nOut (offN r f ws) (fun i => (sx ws i).size) ws.length) = (nOut (offN r f ws) (fun i => (sx ws i).size) ws.length).2.2 := by
      unfold lst at h6' ⊢
      split
      · rename_i he; rw [if_pos he] at h6'; omega
      · rfl
    rw [hlst]
    conv => whnf
    repeat (first | (refine go_D2 ?_; conv => whnf) | (refine lk_D2 ?_; conv => whnf))
    first | refine ⟨rfl, _, rfl, ?_⟩ | refine ⟨_, rfl, ?_⟩
    skip
    unfold nearV nearD
    rw [hk]; rfl
  have hin : i < ws.length := by simpa using h5
  have hs := okW_size (hall i hin)
  conv => whnf
  repeat (first | (refine go_D2 ?_; conv => whnf) | (refine lk_D2 ?_; conv => whnf))
  refine loop_rule (α := Nat) (fun k => [(2, strsD m ws), (3, .ptr (3, 0, 0) 0), (4, .ptr (4, 0, 0) 0), (11, .v (.int .i64 (nIn (offN r f ws i) i (nOut (offN r f ws) (fun i => (sx ws i).size) i) k).1)), (12, .v (.int .i64 (nIn (offN r f ws i) i (nOut (offN r f ws) (fun i => (sx ws i).size) i) k).2.1)), (13, .v (.int .i64 (lst (nIn (offN r f ws i) i (nOut (offN r f ws) (fun i => (sx ws i).size) i) k)))), (14, .v (.int .i64 i)), (15, .v (.int .i64 k))]) (fun k => [((3, 0, 0), roofD r), ((4, 0, 0), row8D f)]) (fun k => k ≤ (sx ws i).size) (fun k => (sx ws i).size - k) (0) ?_ (sim_of (rn := [((3, 0, 0), (3, 0, 0)), ((4, 0, 0), (4, 0, 0))]) rfl ?_ ?_) ?_
  · exact okt_D2
  · exact hold_D2
  · ((repeat' (first | exact trivial | apply And.intro)) <;> ((first | refine ⟨_, _, rfl, rfl, ?_⟩ ); rfl))
  intro k hk
  have hti := nIn_in (hoff i) (i := i) hoi k
  have ho := hoff i k
  conv => whnf
  repeat (first | (refine go_D2 ?_; conv => whnf) | (refine lk_D2 ?_; conv => whnf))
  cases h7 : decide ((k : Int) < ((sx ws i).size : Int))
  · have hke : k = (sx ws i).size := by simp at h7; omega
    subst hke
    conv => whnf
    repeat (first | (refine go_D2 ?_; conv => whnf) | (refine lk_D2 ?_; conv => whnf))
    refine ⟨i + 1, ?_, ?_, sim_of (rn := [((3, 0, 0), (3, 0, 0)), ((4, 0, 0), (4, 0, 0))]) rfl ?_ ?_⟩
    · (dsimp only; omega)
    · exact okt_D2
    · exact hold_D2
    · ((repeat' (first | exact trivial | apply And.intro)) <;> ((first | refine ⟨_, _, rfl, rfl, ?_⟩ ); rfl))
  have hkn : k < (sx ws i).size := by simpa using h7
  conv => whnf
  repeat (first | (refine go_D2 ?_; conv => whnf) | (refine lk_D2 ?_; conv => whnf))
  first | refine ⟨_, _, rfl, sc_D2 (l07Make_sat r hr hb (sx ws i) hs k (by omega)), ?_⟩ | refine .inl ⟨_, _, rfl, sc_D2 (l07Make_sat r hr hb (sx ws i) hs k (by omega)), ?_⟩
  conv => whnf
  repeat (first | (refine go_D2 ?_; conv => whnf) | (refine lk_D2 ?_; conv => whnf))
  first | refine ⟨_, _, rfl, sc_D2 (l07Off_sat (patR r (sx ws i) k) f (acc_in _ _ _) hf), ?_⟩ | refine .inl ⟨_, _, rfl, sc_D2 (l07Off_sat (patR r (sx ws i) k) f (acc_in _ _ _) hf), ?_⟩
  conv => whnf
  repeat (first | (refine go_D2 ?_; conv => whnf) | (refine lk_D2 ?_; conv => whnf))
  have hstep : nIn (offN r f ws i) i (nOut (offN r f ws) (fun i => (sx ws i).size) i) (k + 1) = nStep (offN r f ws i k) i k (nIn (offN r f ws i) i (nOut (offN r f ws) (fun i => (sx ws i).size) i) k) := rfl
  rw [show cntC (xorR (patR r (sx ws i) k) f) 8 = offN r f ws i k from rfl]
  generalize offN r f ws i k = o at hstep ho ⊢
  generalize nIn (offN r f ws i) i (nOut (offN r f ws) (fun i => (sx ws i).size) i) k = t at hstep hti ⊢
  have less : o < t.2.2 → lst (nStep o i k t) = o := fun h => by
    unfold nStep; rw [if_pos h]
    unfold lst; rw [if_neg (by dsimp only; omega)]
  cases h8 : decide (lst t < 0)
  case true =>
    have h8' : lst t < 0 := by simpa using h8
    have ht : o < t.2.2 := by
      unfold lst at h8'
      split at h8' <;> omega
    have e1 := less ht
    have e2 : nStep o i k t = ((i : Int), (k : Int), o) := by unfold nStep; rw [if_pos ht]
    rw [e2] at hstep e1
    conv => whnf
    repeat (first | (refine go_D2 ?_; conv => whnf) | (refine lk_D2 ?_; conv => whnf))
    refine ⟨k + 1, ?_, ?_, sim_of (rn := [((3, 0, 0), (3, 0, 0)), ((4, 0, 0), (4, 0, 0))]) rfl ?_ ?_⟩
    · (dsimp only; omega)
    · exact okt_D2
    · ((repeat' (first | exact trivial | apply And.intro)) <;> (first | rfl | (exact vintS (by first | (rw [hstep]; done) | (rw [hstep, e1]; done) | (rw [hstep]; exact e1.symm) | (rw [hstep]; exact e1))) | exact leaf_D2))
    · ((repeat' (first | exact trivial | apply And.intro)) <;> ((first | refine ⟨_, _, rfl, rfl, ?_⟩ ); rfl))
  have h8' : ¬ lst t < 0 := by simpa using h8
  have hl2 : lst t = t.2.2 := by
    unfold lst at h8' ⊢
    split
    · rename_i he; rw [if_pos he] at h8'; omega
    · rfl
  conv => whnf
  repeat (first | (refine go_D2 ?_; conv => whnf) | (refine lk_D2 ?_; conv => whnf))
  rw [hl2]
  cases h9 : decide (o < t.2.2)
  · have ht : ¬ o < t.2.2 := by simpa using h9
    have e2 : nStep o i k t = t := by unfold nStep; rw [if_neg ht]
    rw [e2] at hstep
    conv => whnf
    repeat (first | (refine go_D2 ?_; conv => whnf) | (refine lk_D2 ?_; conv => whnf))
    refine ⟨k + 1, ?_, ?_, sim_of (rn := [((3, 0, 0), (3, 0, 0)), ((4, 0, 0), (4, 0, 0))]) rfl ?_ ?_⟩
    · (dsimp only; omega)
    · exact okt_D2
    · ((repeat' (first | exact trivial | apply And.intro)) <;> (first | rfl | (exact vintS (by first | (rw [hstep]; done) | (rw [hstep, hl2]; done) | (rw [hstep]; exact hl2.symm) | (rw [hstep]; exact hl2))) | exact leaf_D2))
    · ((repeat' (first | exact trivial | apply And.intro)) <;> ((first | refine ⟨_, _, rfl, rfl, ?_⟩ ); rfl))
  have ht : o < t.2.2 := by simpa using h9
  have e1 := less ht
  have e2 : nStep o i k t = ((i : Int), (k : Int), o) := by unfold nStep; rw [if_pos ht]
  rw [e2] at hstep e1
  conv => whnf
  repeat (first | (refine go_D2 ?_; conv => whnf) | (refine lk_D2 ?_; conv => whnf))
  refine ⟨k + 1, ?_, ?_, sim_of (rn := [((3, 0, 0), (3, 0, 0)), ((4, 0, 0), (4, 0, 0))]) rfl ?_ ?_⟩
  · (dsimp only; omega)
  · exact okt_D2
  · ((repeat' (first | exact trivial | apply And.intro)) <;> (first | rfl | (exact vintS (by first | (rw [hstep]; done) | (rw [hstep, e1]; done) | (rw [hstep]; exact e1.symm) | (rw [hstep]; exact e1))) | exact leaf_D2))
  · ((repeat' (first | exact trivial | apply And.intro)) <;> ((first | refine ⟨_, _, rfl, rfl, ?_⟩ ); rfl))
theorem nearest_sat (r : Roof) (hr : r.In) (f : Nat → Int) (hf : RowIn f) (ws : List ByteArray) (hl : ws.length ≤ 1048576) (hz : ∀ i, i < ws.length → (sx ws i).size ≤ 1048576) (m : Bool) : Sat Tryd.prog 49 [roofD r, row8D f, strsD m ws] (nearV r f ws) := by
  refine sat_of_wp hMix tOk Tryd.func49 rfl rfl Tryd.ntmps49 rfl rfl Tryd.results49 (by kernel_rfl) ?_
  conv => whnf
  repeat (first | (refine go_D2 ?_; conv => whnf) | (refine lk_D2 ?_; conv => whnf))
  first | refine ⟨_, _, rfl, sc_D2 (validColours_sat r hr f hf), ?_⟩ | refine .inl ⟨_, _, rfl, sc_D2 (validColours_sat r hr f hf), ?_⟩
  conv => whnf
  repeat (first | (refine go_D2 ?_; conv => whnf) | (refine lk_D2 ?_; conv => whnf))
  cases h1 : okC r f
  · rw [nearV_err (k := 1) (by unfold nearK; rw [h1]; rfl) (by decide)]
    conv => whnf
    repeat (first | (refine go_D2 ?_; conv => whnf) | (refine lk_D2 ?_; conv => whnf))
    first | refine ⟨rfl, _, rfl, ?_⟩ | refine ⟨_, rfl, ?_⟩
    rfl
  have hb := okC_bounds h1
  conv => whnf
  repeat (first | (refine go_D2 ?_; conv => whnf) | (refine lk_D2 ?_; conv => whnf))
  first | refine ⟨_, _, rfl, sc_D2 (areAllS_sat (p := okW) ws hl false fun i hi => implValidWord_sat (sx ws i) (hz i hi)), ?_⟩ | refine .inl ⟨_, _, rfl, sc_D2 (areAllS_sat (p := okW) ws hl false fun i hi => implValidWord_sat (sx ws i) (hz i hi)), ?_⟩
  conv => whnf
  repeat (first | (refine go_D2 ?_; conv => whnf) | (refine lk_D2 ?_; conv => whnf))
  cases ha : ws.all okW
  · rw [nearV_err (k := 1) (by unfold nearK; rw [h1, ha]; rfl) (by decide)]
    conv => whnf
    repeat (first | (refine go_D2 ?_; conv => whnf) | (refine lk_D2 ?_; conv => whnf))
    first | refine ⟨rfl, _, rfl, ?_⟩ | refine ⟨_, rfl, ?_⟩
    rfl
  have hok : (okC r f && ws.all okW) = true := by rw [h1, ha]; rfl
  have hall := all_sx.1 ha
  conv => whnf
  repeat (first | (refine go_D2 ?_; conv => whnf) | (refine lk_D2 ?_; conv => whnf))
  cases h4 : decide ((ws.length : Int) > 20)
  case true =>
    have h4' : (ws.length : Int) > 20 := by simpa using h4
    rw [nearV_err (k := 3) (by unfold nearK; rw [if_pos hok, if_pos h4']) (by decide)]
    conv => whnf
    repeat (first | (refine go_D2 ?_; conv => whnf) | (refine lk_D2 ?_; conv => whnf))
    first | refine ⟨rfl, _, rfl, ?_⟩ | refine ⟨_, rfl, ?_⟩
    rfl
  have h4' : ¬ (ws.length : Int) > 20 := by simpa using h4
  conv => whnf
  repeat (first | (refine go_D2 ?_; conv => whnf) | (refine lk_D2 ?_; conv => whnf))
  cases h6 : ((ws.length : Int) == 0)
  case true =>
    have h0 : (ws.length : Int) = 0 := by simpa using h6
    rw [nearV_err (k := 6) (by unfold nearK; rw [if_pos hok, if_neg h4', if_pos h0]) (by decide)]
    conv => whnf
    repeat (first | (refine go_D2 ?_; conv => whnf) | (refine lk_D2 ?_; conv => whnf))
    first | refine ⟨rfl, _, rfl, ?_⟩ | refine ⟨_, rfl, ?_⟩
    rfl
  have hne : ¬ (ws.length : Int) = 0 := by simpa using h6
  have hk : nearK r f ws = 0 := by unfold nearK; rw [if_pos hok, if_neg h4', if_neg hne]
  have hoff := offN_in r f ws
  conv => whnf
  repeat (first | (refine go_D2 ?_; conv => whnf) | (refine lk_D2 ?_; conv => whnf))
  refine loop_rule (α := Nat) (fun i => [(3, .ptr (3, 0, 0) 0), (4, .ptr (4, 0, 0) 0), (10, .v (.int .i64 (nOut (offN r f ws) (fun i => (sx ws i).size) i).1)), (11, .v (.int .i64 (nOut (offN r f ws) (fun i => (sx ws i).size) i).2.1)), (12, .v (.int .i64 (nOut (offN r f ws) (fun i => (sx ws i).size) i).2.2)), (35, strsD m ws), (36, .v (.int .i64 ws.length)), (37, .v (.int .i64 i))]) (fun i => [((3, 0, 0), roofD r), ((4, 0, 0), row8D f)]) (fun i => i ≤ ws.length) (fun i => ws.length - i) (0) ?_ (sim_of (rn := [((3, 0, 0), (3, 0, 0)), ((4, 0, 0), (4, 0, 0))]) rfl ?_ ?_) ?_
  · exact okt_D2
  · exact hold_D2
  · ((repeat' (first | exact trivial | apply And.intro)) <;> ((first | refine ⟨_, _, rfl, rfl, ?_⟩ ); rfl))
  intro i hi
  have hoi := nOut_in hoff (n := fun i => (sx ws i).size) i
  conv => whnf
  repeat (first | (refine go_D2 ?_; conv => whnf) | (refine lk_D2 ?_; conv => whnf))
  cases h5 : decide ((i : Int) < (ws.length : Int))
  · have hin : i = ws.length := by simp at h5; omega
    subst hin
    conv => whnf
    repeat (first | (refine go_D2 ?_; conv => whnf) | (refine lk_D2 ?_; conv => whnf))
    first | refine ⟨rfl, _, rfl, ?_⟩ | refine ⟨_, rfl, ?_⟩
    skip
    unfold nearV nearD
    rw [hk]; rfl
  have hin : i < ws.length := by simpa using h5
  have hs := okW_size (hall i hin)
  conv => whnf
  repeat (first | (refine go_D2 ?_; conv => whnf) | (refine lk_D2 ?_; conv => whnf))
  refine loop_rule (α := Nat) (fun k => [(3, .ptr (3, 0, 0) 0), (4, .ptr (4, 0, 0) 0), (10, .v (.int .i64 (nIn (offN r f ws i) i (nOut (offN r f ws) (fun i => (sx ws i).size) i) k).1)), (11, .v (.int .i64 (nIn (offN r f ws i) i (nOut (offN r f ws) (fun i => (sx ws i).size) i) k).2.1)), (12, .v (.int .i64 (nIn (offN r f ws i) i (nOut (offN r f ws) (fun i => (sx ws i).size) i) k).2.2)), (13, .v (.int .i64 i)), (14, .v (.string (sx ws i))), (35, strsD m ws), (36, .v (.int .i64 ws.length)), (37, .v (.int .i64 i)), (43, .v (.int .i64 (sx ws i).size)), (44, .v (.int .i64 k))]) (fun k => [((3, 0, 0), roofD r), ((4, 0, 0), row8D f)]) (fun k => k ≤ (sx ws i).size) (fun k => (sx ws i).size - k) (0) ?_ (sim_of (rn := [((3, 0, 0), (3, 0, 0)), ((4, 0, 0), (4, 0, 0))]) rfl ?_ ?_) ?_
  · exact okt_D2
  · exact hold_D2
  · ((repeat' (first | exact trivial | apply And.intro)) <;> ((first | refine ⟨_, _, rfl, rfl, ?_⟩ ); rfl))
  intro k hk'
  have hti := nIn_in (hoff i) (i := i) hoi k
  have ho := hoff i k
  conv => whnf
  repeat (first | (refine go_D2 ?_; conv => whnf) | (refine lk_D2 ?_; conv => whnf))
  cases h7 : decide ((k : Int) < ((sx ws i).size : Int))
  · have hke : k = (sx ws i).size := by simp at h7; omega
    subst hke
    conv => whnf
    repeat (first | (refine go_D2 ?_; conv => whnf) | (refine lk_D2 ?_; conv => whnf))
    refine ⟨i + 1, ?_, ?_, sim_of (rn := [((3, 0, 0), (3, 0, 0)), ((4, 0, 0), (4, 0, 0))]) rfl ?_ ?_⟩
    · (dsimp only; omega)
    · exact okt_D2
    · exact hold_D2
    · ((repeat' (first | exact trivial | apply And.intro)) <;> ((first | refine ⟨_, _, rfl, rfl, ?_⟩ ); rfl))
  have hkn : k < (sx ws i).size := by simpa using h7
  conv => whnf
  repeat (first | (refine go_D2 ?_; conv => whnf) | (refine lk_D2 ?_; conv => whnf))
  first | refine ⟨_, _, rfl, sc_D2 (pattern_sat r hr hb (sx ws i) hs k (by omega)), ?_⟩ | refine .inl ⟨_, _, rfl, sc_D2 (pattern_sat r hr hb (sx ws i) hs k (by omega)), ?_⟩
  conv => whnf
  repeat (first | (refine go_D2 ?_; conv => whnf) | (refine lk_D2 ?_; conv => whnf))
  first | refine ⟨_, _, rfl, sc_D2 (off_sat f (patR r (sx ws i) k) hf (acc_in _ _ _)), ?_⟩ | refine .inl ⟨_, _, rfl, sc_D2 (off_sat f (patR r (sx ws i) k) hf (acc_in _ _ _)), ?_⟩
  conv => whnf
  repeat (first | (refine go_D2 ?_; conv => whnf) | (refine lk_D2 ?_; conv => whnf))
  have hstep : nIn (offN r f ws i) i (nOut (offN r f ws) (fun i => (sx ws i).size) i) (k + 1) = nStep (offN r f ws i k) i k (nIn (offN r f ws i) i (nOut (offN r f ws) (fun i => (sx ws i).size) i) k) := rfl
  rw [show cntC (xorR f (patR r (sx ws i) k)) 8 = offN r f ws i k by rw [xorR_comm]; rfl]
  generalize offN r f ws i k = o at hstep ho ⊢
  generalize nIn (offN r f ws i) i (nOut (offN r f ws) (fun i => (sx ws i).size) i) k = t at hstep hti ⊢
  cases h9 : decide (o < t.2.2)
  · have ht : ¬ o < t.2.2 := by simpa using h9
    have e2 : nStep o i k t = t := by unfold nStep; rw [if_neg ht]
    rw [e2] at hstep
    conv => whnf
    repeat (first | (refine go_D2 ?_; conv => whnf) | (refine lk_D2 ?_; conv => whnf))
    refine ⟨k + 1, ?_, ?_, sim_of (rn := [((3, 0, 0), (3, 0, 0)), ((4, 0, 0), (4, 0, 0))]) rfl ?_ ?_⟩
    · (dsimp only; omega)
    · exact okt_D2
    · ((repeat' (first | exact trivial | apply And.intro)) <;> (first | rfl | (exact vintS (by rw [hstep])) | exact leaf_D2))
    · ((repeat' (first | exact trivial | apply And.intro)) <;> ((first | refine ⟨_, _, rfl, rfl, ?_⟩ ); rfl))
  have ht : o < t.2.2 := by simpa using h9
  have e2 : nStep o i k t = ((i : Int), (k : Int), o) := by unfold nStep; rw [if_pos ht]
  rw [e2] at hstep
  conv => whnf
  repeat (first | (refine go_D2 ?_; conv => whnf) | (refine lk_D2 ?_; conv => whnf))
  refine ⟨k + 1, ?_, ?_, sim_of (rn := [((3, 0, 0), (3, 0, 0)), ((4, 0, 0), (4, 0, 0))]) rfl ?_ ?_⟩
  · (dsimp only; omega)
  · exact okt_D2
  · ((repeat' (first | exact trivial | apply And.intro)) <;> (first | rfl | (exact vintS (by rw [hstep])) | exact leaf_D2))
  · ((repeat' (first | exact trivial | apply And.intro)) <;> ((first | refine ⟨_, _, rfl, rfl, ?_⟩ ); rfl))
end Go.Proofs.YtdbhfobnmlogeaaDoor
/- Plain words: gutters, their pipes, and water. -/
set_option linter.unusedVariables false
set_option linter.unusedSimpArgs false
namespace Go.V
structure Gut where
  n : Int
  dp : Int
  h : Nat → Int
  lv : Int
  ps : List (Int × Int)
def px (ps : List (Int × Int)) (i : Nat) : Int × Int := ps.getD i (0, 0)
structure Gut.In (g : Gut) : Prop where
  n : -128 ≤ g.n ∧ g.n ≤ 127
  dp : -32768 ≤ g.dp ∧ g.dp ≤ 32767
  h : ∀ i, -128 ≤ g.h i ∧ g.h i ≤ 127
  lv : 0 ≤ g.lv ∧ g.lv ≤ 4294967295
  ps : ∀ i, i < g.ps.length → (-128 ≤ (px g.ps i).1 ∧ (px g.ps i).1 ≤ 127) ∧ (-32768 ≤ (px g.ps i).2 ∧ (px g.ps i).2 ≤ 32767)
  len : g.ps.length ≤ 9223372036854775807
@[irreducible] def pipesC (ps : List (Int × Int)) : List Value := ps.flatMap fun q => [.int .i8 q.1, .int .i16 q.2]
theorem pipesC_def (ps : List (Int × Int)) : pipesC ps = ps.flatMap fun q => [.int .i8 q.1, .int .i16 q.2] := by unfold pipesC; rfl
theorem pipesC_cons (q : Int × Int) (ps : List (Int × Int)) : pipesC (q :: ps) = .int .i8 q.1 :: .int .i16 q.2 :: pipesC ps := by simp [pipesC_def]
theorem pipesC_nil : pipesC [] = [] := by simp [pipesC_def]
@[simp] theorem pipesC_len (ps : List (Int × Int)) : (pipesC ps).length = ps.length * 2 := by
  induction ps with
  | nil => simp [pipesC_nil]
  | cons q ps ih => simp only [pipesC_cons, List.length_cons, ih]; omega
def hV (h : Nat → Int) : List Value := [.int .i8 (h 0), .int .i8 (h 1), .int .i8 (h 2), .int .i8 (h 3), .int .i8 (h 4), .int .i8 (h 5), .int .i8 (h 6), .int .i8 (h 7), .int .i8 (h 8), .int .i8 (h 9), .int .i8 (h 10), .int .i8 (h 11), .int .i8 (h 12), .int .i8 (h 13), .int .i8 (h 14), .int .i8 (h 15), .int .i8 (h 16)]
/-- Water. -/
def watC (w : Nat → Int) : List Value := tab 17 fun i => .int .i32 (w i)
@[simp] theorem watC_len (w : Nat → Int) : (watC w).length = 17 := by simp [watC]
end Go.V
/- Contracts: what the laws do with gutters and water. -/
set_option linter.unusedVariables false
set_option linter.unusedSimpArgs false
namespace Go.V
/- Words for the walks of this text: their default arguments are tried where they are used. -/
end Go.V
namespace Go.V
/-- Heights as cells. -/
def hC (h : Nat → Int) : List Value := tab 17 fun i => .int .i8 (h i)
@[simp] theorem hC_len (h : Nat → Int) : (hC h).length = 17 := by simp [hC]
end Go.V
namespace Go.Proofs.YtdbhfobnmlogeaaDoor
open Go.V
end Go.Proofs.YtdbhfobnmlogeaaDoor
/- Contracts: valid gutters and water, both sides. -/
set_option linter.unusedVariables false
set_option linter.unusedSimpArgs false
namespace Go.V
/- Words for the walks of this text: their default arguments are tried where they are used. -/
end Go.V
namespace Go.V
end Go.V
namespace Go.Proofs.YtdbhfobnmlogeaaDoor
open Go.V
end Go.Proofs.YtdbhfobnmlogeaaDoor
/- Plain words: what a minute does with the water in a gutter. -/
set_option linter.unusedVariables false
set_option linter.unusedSimpArgs false
namespace Go.V
def upL (n : Nat) : List Int := (List.range n).map fun i => Int.ofNat i
@[simp] theorem upL_len (n : Nat) : (upL n).length = n := by simp [upL]
end Go.V
/- Contracts: where water flows, a minute, and several, both sides; the laws. -/
set_option linter.unusedVariables false
set_option linter.unusedSimpArgs false
namespace Go.V
/- Words for the walks of this text: their default arguments are tried where they are used. -/
end Go.V
namespace Go.Proofs.YtdbhfobnmlogeaaDoor
open Go.V
end Go.Proofs.YtdbhfobnmlogeaaDoor
/- Contracts: a minute, and several, both sides; the laws. -/
set_option linter.unusedVariables false
set_option linter.unusedSimpArgs false
namespace Go.V
end Go.V
namespace Go.Proofs.YtdbhfobnmlogeaaDoor
open Go.V
end Go.Proofs.YtdbhfobnmlogeaaDoor
/- Plain words: the first least of a list; a gutter without leaves in a cell. -/
set_option linter.unusedVariables false
set_option linter.unusedSimpArgs false
namespace Go.V
def nx (ls : List Nat) (i : Nat) : Nat := ls.getD i 0
def toI (ls : List Nat) : List Int := ls.map Int.ofNat
@[simp] theorem toI_len (ls : List Nat) : (toI ls).length = ls.length := by simp [toI]
end Go.V
/- Contracts: the cell whose leaves are best taken away, both sides, and the law. -/
set_option linter.unusedVariables false
set_option linter.unusedSimpArgs false
namespace Go.V
end Go.V
namespace Go.Proofs.YtdbhfobnmlogeaaDoor
open Go.V
end Go.Proofs.YtdbhfobnmlogeaaDoor
/- Plain words: rain that runs down a roof. -/
set_option linter.unusedVariables false
set_option linter.unusedSimpArgs false
namespace Go.V
/-- Rain. -/
def raiC (w : Nat → Int) : List Value := tab 17 fun i => .int .i16 (w i)
@[simp] theorem raiC_len (w : Nat → Int) : (raiC w).length = 17 := by simp [raiC]
/-- What drips: eight courses of seventeen cells. -/
def dripC (f : Nat → Nat → Int) : List Value := tab 136 fun k => .int .i32 (f (k / 17) (k % 17))
@[simp] theorem dripC_len (f : Nat → Nat → Int) : (dripC f).length = 136 := by simp [dripC]
/-- Which tile covers a cell of a course, and of what kind it is. -/
def shN (r : Roof) (i : Nat) : Nat := (i + r.s.toNat) % 2
def tlI (r : Roof) (i c : Nat) : Int := if c < shN r i then -1 else if (((c - shN r i) / 2 : Nat) : Int) < r.w then (((c - shN r i) / 2 : Nat) : Int) else -1
def ovI (r : Roof) (i c : Nat) : Int := if tlI r i c < 0 then 0 else r.t i (tlI r i c).toNat
def drI (r : Roof) (i c : Nat) (n : Int) : Int :=
  if ovI r i c = 1 then (n + 1).tdiv 2 else if ovI r i c = 2 then (n + 2).tdiv 3 else if ovI r i c = 3 then (if 0 < i ∧ ovI r (i - 1) c = 2 then 0 else n) else 0
theorem tlI_range (r : Roof) (i c : Nat) : -1 ≤ tlI r i c ∧ (tlI r i c < 0 ∨ tlI r i c < r.w) := by
  unfold tlI
  split
  · omega
  · split <;> omega
def wtI (r : Roof) (w : Nat → Int) (c : Nat) : Nat → Int
  | 0 => w c
  | i + 1 => wtI r w c i - drI r i c (wtI r w c i)
def onR (r : Roof) (i c : Nat) : Prop := (i : Int) < r.h ∧ (c : Int) < 2 * r.w + 1
instance (r : Roof) (i c : Nat) : Decidable (onR r i c) := by unfold onR; exact inferInstance
/-- Of a roof and rain: what drips, what comes to each course, what comes to the gutter. -/
def dR (r : Roof) (w : Nat → Int) (i c : Nat) : Int := if onR r i c then drI r i c (wtI r w c i) else 0
def gtL (r : Roof) (w : Nat → Int) (n : Nat) : List Int := (List.range n).map fun c => wtI r w c r.h.toNat
@[simp] theorem gtL_len (r : Roof) (w : Nat → Int) (n : Nat) : (gtL r w n).length = n := by simp [gtL]
/-- The cells of a struct whose head is a table. -/
def dripL (f : Nat → Nat → Int) : List D := (dripC f).map D.v
@[simp] theorem dripL_len (f : Nat → Nat → Int) : (dripL f).length = 136 := by simp [dripL]
end Go.V
namespace Go.Proofs.YtdbhfobnmlogeaaDoor
open Go.V
end Go.Proofs.YtdbhfobnmlogeaaDoor
/- Contracts: rain that runs down a roof, both sides. -/
set_option linter.unusedVariables false
set_option linter.unusedSimpArgs false
namespace Go.V
/- Words for the walks of this text: their default arguments are tried where they are used. -/
end Go.V
namespace Go.V
end Go.V
namespace Go.Proofs.YtdbhfobnmlogeaaDoor
open Go.V
section
variable (r : Roof) (hr : r.In) (hb : (1 ≤ r.w ∧ r.w ≤ 8) ∧ (1 ≤ r.h ∧ r.h ≤ 8) ∧ r.s ≤ 1)
include hr hb
end
end Go.Proofs.YtdbhfobnmlogeaaDoor
/- Contracts: rain that runs down a roof, both sides. -/
set_option linter.unusedVariables false
set_option linter.unusedSimpArgs false
namespace Go.Proofs.YtdbhfobnmlogeaaDoor
open Go.V
end Go.Proofs.YtdbhfobnmlogeaaDoor
/- Plain words: rain that is valid, how much drips in all, the best tile to make whole. -/
set_option linter.unusedVariables false
set_option linter.unusedSimpArgs false
namespace Go.V
def smT (p : Nat → Int) : Nat → Int
  | 0 => 0
  | n + 1 => smT p n + p n
/-- The sum of a table's first rows. -/
def totS (f : Nat → Nat → Int) (n : Nat) : Int := smT (fun i => smT (f i) 17) n
theorem smT_zero {p : Nat → Int} {m : Nat} (h : ∀ i, i < m → p i = 0) : ∀ n, n ≤ m → smT p n = 0
  | 0, _ => rfl
  | n + 1, hn => by simp only [smT, smT_zero h n (by omega), h n (by omega), Int.add_zero]
/-- How much drips in all. -/
def dsI (r : Roof) (w : Nat → Int) : Int := totS (dR r w) 8
/-- How much less drips if a tile is whole. -/
def svI (r : Roof) (w : Nat → Int) (c k : Nat) : Int := dsI r w - dsI (putR r c k 0) w
def wrB (r : Roof) (c k : Nat) : Bool := r.t c k != 0
def wrP (r : Roof) : List Pl := allP r (wrB r)
theorem nthP_mem {ps : List Pl} {i : Nat} (h : i < ps.length) : nthP ps i ∈ ps := List.mem_of_getElem? (nthP_some h)
theorem bestL_mem2 {a : Nat → Nat → Int} {ps : List Pl} : ∀ {i : Nat}, i < ps.length → bestL a ps i ∈ ps
  | 0, h => nthP_mem h
  | i + 1, h => by
    simp only [bestL]
    split
    · exact nthP_mem h
    · exact bestL_mem2 (by omega)
/-- The tile that is best made whole. -/
def bwP (r : Roof) (w : Nat → Int) : Pl := bestL (svI r w) (wrP r) ((wrP r).length - 1)
def mdR (r : Roof) (w : Nat → Int) : Nat → Roof
  | 0 => r
  | n + 1 => putR (mdR r w n) (bwP (mdR r w n) w).1 (bwP (mdR r w n) w).2 0
def mdL (r : Roof) (w : Nat → Int) : Nat → List Pl
  | 0 => []
  | n + 1 => mdL r w n ++ [bwP (mdR r w n) w]
@[simp] theorem mdR_w (r : Roof) (w : Nat → Int) : ∀ n, (mdR r w n).w = r.w
  | 0 => rfl
  | n + 1 => mdR_w r w n
@[simp] theorem mdR_h (r : Roof) (w : Nat → Int) : ∀ n, (mdR r w n).h = r.h
  | 0 => rfl
  | n + 1 => mdR_h r w n
@[simp] theorem mdR_s (r : Roof) (w : Nat → Int) : ∀ n, (mdR r w n).s = r.s
  | 0 => rfl
  | n + 1 => mdR_s r w n
@[simp] theorem mdL_len (r : Roof) (w : Nat → Int) : ∀ n, (mdL r w n).length = n
  | 0 => rfl
  | n + 1 => by simp [mdL, mdL_len r w n]
theorem wrP_eq (r : Roof) : wrP r = (gridP r.w.toNat r.h.toNat).filter fun q => wrB r q.1 q.2 := allP_eq r _
theorem wrP_drop {r : Roof} {q : Pl} (h : q ∈ wrP r) : (wrP (putR r q.1 q.2 0)).length < (wrP r).length := by
  rw [wrP_eq] at h
  rw [wrP_eq, wrP_eq]
  show ((gridP r.w.toNat r.h.toNat).filter fun x => wrB (putR r q.1 q.2 0) x.1 x.2).length < _
  have e : ((gridP r.w.toNat r.h.toNat).filter fun x => wrB (putR r q.1 q.2 0) x.1 x.2) = ((gridP r.w.toNat r.h.toNat).filter fun q => wrB r q.1 q.2).filter fun x => x != q := by
    rw [List.filter_filter]
    apply List.filter_congr
    intro x _
    unfold wrB putR putG
    by_cases hx : x = q
    · subst hx; simp
    · have : ¬ (x.1 = q.1 ∧ x.2 = q.2) := fun h => hx (Prod.ext h.1 h.2)
      have hx' : (x != q) = true := by simpa using hx
      simp [this, hx']
  rw [e]
  exact List.length_filter_lt_length_iff_exists.2 ⟨q, h, by simp⟩
theorem wrP_ne {r : Roof} {w : Nat → Int} (hw : ∀ c, c < 17 → 0 ≤ w c ∧ w c ≤ 1000) (hb : (1 ≤ r.w ∧ r.w ≤ 8) ∧ (1 ≤ r.h ∧ r.h ≤ 8) ∧ r.s ≤ 1) (h : 0 < dsI r w) : 0 < (wrP r).length := by
  rcases Nat.eq_zero_or_pos (wrP r).length with h0 | h0
  · exfalso
    have hall : ∀ c k : Nat, (c : Int) < r.h → (k : Int) < r.w → r.t c k = 0 := by
      intro c k hc hk
      have hm : (c, k) ∈ gridP r.w.toNat r.h.toNat := by
        unfold gridP rowP
        simp only [List.mem_flatMap, List.mem_range, List.mem_map]
        exact ⟨c, by omega, k, by omega, rfl⟩
      rw [List.length_eq_zero_iff, wrP_eq] at h0
      have := List.filter_eq_nil_iff.1 h0 _ hm
      unfold wrB at this
      simpa using this
    have hd : ∀ i c, dR r w i c = 0 := by
      intro i c
      unfold dR
      split
      · rename_i hon
        have ho : ovI r i c = 0 := by
          have := tlI_range r i c
          unfold ovI
          split
          · rfl
          · exact hall _ _ hon.1 (by omega)
        unfold drI
        rw [ho]
        rfl
      · rfl
    have : dsI r w = 0 := by
      unfold dsI totS
      exact smT_zero (m := 8) (fun i _ => smT_zero (m := 17) (fun c _ => hd i c) 17 (Nat.le_refl _)) 8 (Nat.le_refl _)
    omega
  · exact h0
theorem bwP_mem {r : Roof} {w : Nat → Int} (h : 0 < (wrP r).length) : bwP r w ∈ wrP r := bestL_mem2 (by omega)
/-- What holds before each round. -/
structure MdOk (r : Roof) (w : Nat → Int) (b : Int) (n : Nat) : Prop where
  le : n + (wrP (mdR r w n)).length ≤ 64
  no : ∀ j, j < n → b < dsI (mdR r w j) w
theorem MdOk.zero {r : Roof} (hb : (1 ≤ r.w ∧ r.w ≤ 8) ∧ (1 ≤ r.h ∧ r.h ≤ 8) ∧ r.s ≤ 1) (w : Nat → Int) (b : Int) : MdOk r w b 0 :=
  ⟨by have := allP_len hb (wrB r); show 0 + (wrP r).length ≤ 64; unfold wrP; omega, fun j hj => by omega⟩
theorem MdOk.next {r : Roof} (hb : (1 ≤ r.w ∧ r.w ≤ 8) ∧ (1 ≤ r.h ∧ r.h ≤ 8) ∧ r.s ≤ 1) {w : Nat → Int} (hw : ∀ c, c < 17 → 0 ≤ w c ∧ w c ≤ 1000) {b : Int} (hb0 : 0 ≤ b) {n : Nat} (h : MdOk r w b n) (hd : b < dsI (mdR r w n) w) :
    0 < (wrP (mdR r w n)).length ∧ MdOk r w b (n + 1) := by
  have hne := wrP_ne (r := mdR r w n) hw (by simpa using hb) (by omega)
  refine ⟨hne, ?_, fun j hj => ?_⟩
  · have := wrP_drop (bwP_mem (w := w) hne)
    have h1 := h.le
    simp only [mdR]
    omega
  · by_cases hjn : j = n
    · subst hjn; exact hd
    · exact h.no j (by omega)
end Go.V
/- Contracts: whether rain is valid, how much drips in all, both sides. -/
set_option linter.unusedVariables false
set_option linter.unusedSimpArgs false
namespace Go.V
/- Words for the walks of this text: their default arguments are tried where they are used. -/
end Go.V
namespace Go.V
def rowsC (f : Nat → Nat → Int) (n : Nat) : List Value := ((dripC f).drop 0).take (n * 17)
@[simp] theorem rowsC_len {f : Nat → Nat → Int} {n : Nat} (h : n ≤ 8) : (rowsC f n).length = n * 17 := by unfold rowsC; simp; omega
def qL (q : Nat → Int) (n : Nat) : List Int := (List.range n).map q
@[simp] theorem qL_len (q : Nat → Int) (n : Nat) : (qL q n).length = n := by simp [qL]
end Go.V
namespace Go.Proofs.YtdbhfobnmlogeaaDoor
open Go.V
end Go.Proofs.YtdbhfobnmlogeaaDoor
/- Contracts: how much drips in all and how much a whole tile saves, both sides. -/
set_option linter.unusedVariables false
set_option linter.unusedSimpArgs false
namespace Go.V
/- Words for the walks of this text: their default arguments are tried where they are used. -/
end Go.V
namespace Go.V
abbrev Rb (r : Roof) : Prop := (1 ≤ r.w ∧ r.w ≤ 8) ∧ (1 ≤ r.h ∧ r.h ≤ 8) ∧ r.s ≤ 1
end Go.V
namespace Go.Proofs.YtdbhfobnmlogeaaDoor
open Go.V
end Go.Proofs.YtdbhfobnmlogeaaDoor
/- Contracts: the tile that is best made whole; tiles that are made whole until no more than so much drips; the law. -/
set_option linter.unusedVariables false
set_option linter.unusedSimpArgs false
namespace Go.V
end Go.V
namespace Go.Proofs.YtdbhfobnmlogeaaDoor
open Go.V
end Go.Proofs.YtdbhfobnmlogeaaDoor
/- Contracts: tiles that are made whole until no more than so much drips, both sides, and the law. -/
set_option linter.unusedVariables false
set_option linter.unusedSimpArgs false
namespace Go.V
/- Words for the walks of this text: their default arguments are tried where they are used. -/
end Go.V
namespace Go.V
end Go.V
namespace Go.Proofs.YtdbhfobnmlogeaaDoor
open Go.V
end Go.Proofs.YtdbhfobnmlogeaaDoor
/- Numbers as texts, both sides; the text of rain. -/
set_option linter.unusedVariables false
set_option linter.unusedSimpArgs false
namespace Go.V
/- Words for the walks of this text: their default arguments are tried where they are used. -/
end Go.V
namespace Go.V
theorem bloop_eq (b : ByteArray) : ∀ (n i : Nat) (r : List UInt8), b.size - i = n → ByteArray.toList.loop b i r = r.reverse ++ b.data.toList.drop i := by
  intro n
  induction n with
  | zero =>
    intro i r h
    rw [ByteArray.toList.loop, if_neg (by omega)]
    have : b.data.toList.length ≤ i := by show b.data.size ≤ i; have : b.size = b.data.size := rfl; omega
    rw [List.drop_eq_nil_of_le this, List.append_nil]
  | succ n ih =>
    intro i r h
    have hlt : i < b.size := by omega
    rw [ByteArray.toList.loop, if_pos hlt, ih (i + 1) _ (by omega)]
    have hl : i < b.data.toList.length := hlt
    rw [List.drop_eq_getElem_cons hl]
    have hg : b.get! i = b.data.toList[i] := by
      have : b.get! i = b.data[i]! := rfl
      rw [this, getElem!_pos b.data i hlt]; simp
    rw [hg]; simp
theorem toList_eq (b : ByteArray) : b.toList = b.data.toList := by
  have := bloop_eq b _ 0 [] rfl
  simpa [ByteArray.toList] using this
def bsOf (l : List UInt8) : ByteArray := ⟨l.toArray⟩
theorem strOk {a b : ByteArray} (h : a.size + b.size ≤ 1000000000) : ((a.size + b.size : Nat) : Int) ≤ IntKind.i64.max := by
  have : IntKind.i64.max = 9223372036854775807 := rfl
  rw [this]; omega
theorem bs_append (a b : List UInt8) : bsOf a ++ bsOf b = bsOf (a ++ b) := by
  apply ByteArray.ext
  simp [bsOf]
@[simp] theorem bs_size (l : List UInt8) : (bsOf l).size = l.length := rfl
@[simp] theorem bs_list (l : List UInt8) : (bsOf l).data.toList = l := by simp [bsOf]
theorem bs_toList (l : List UInt8) : (bsOf l).toList = l := by rw [toList_eq, bs_list]
theorem bs_of (b : ByteArray) : b = bsOf b.data.toList := by simp [bsOf]
def qS (q : Nat → ByteArray) (n : Nat) : List ByteArray := (List.range n).map q
@[simp] theorem qS_len (q : Nat → ByteArray) (n : Nat) : (qS q n).length = n := by simp [qS]
end Go.V
namespace Go.Proofs.YtdbhfobnmlogeaaDoor
open Go.V
end Go.Proofs.YtdbhfobnmlogeaaDoor
/- Texts split: the kit's contracts told in this calculus; the reference's own loop. -/
set_option linter.unusedVariables false
set_option linter.unusedSimpArgs false
namespace Go.V
/- Words for the walks of this text: their default arguments are tried where they are used. -/
end Go.V
namespace Go.V
section
open Go.Lib
/-- A text split at each such byte. -/
def spl (c : UInt8) : List UInt8 → List (List UInt8)
  | [] => [[]]
  | b :: l => if b = c then [] :: spl c l else (match spl c l with | x :: xs => (b :: x) :: xs | [] => [[b]])
theorem spl_ne (c : UInt8) (l : List UInt8) : spl c l ≠ [] := by
  cases l with
  | nil => simp [spl]
  | cons b l => simp only [spl]; split <;> (try split) <;> simp
theorem spl_hit {c : UInt8} {l : List UInt8} : spl c (c :: l) = [] :: spl c l := by rw [spl, if_pos rfl]
theorem spl_miss {b c : UInt8} {l x : List UInt8} {xs : List (List UInt8)} (h : b ≠ c) (hs : spl c l = x :: xs) : spl c (b :: l) = (b :: x) :: xs := by
  rw [spl, if_neg h, hs]
/-- A piece with no such byte, then the byte. -/
theorem spl_part {c : UInt8} : ∀ {x l : List UInt8}, (∀ b ∈ x, b ≠ c) → spl c (x ++ c :: l) = x :: spl c l
  | [], l, _ => spl_hit
  | b :: x, l, h => by
    rw [List.cons_append]
    exact spl_miss (h b (by simp)) (spl_part fun y hy => h y (by simp [hy]))
theorem spl_last {c : UInt8} : ∀ {x : List UInt8}, (∀ b ∈ x, b ≠ c) → spl c x = [x]
  | [], _ => rfl
  | b :: x, h => spl_miss (h b (by simp)) (spl_last fun y hy => h y (by simp [hy]))
theorem spl_len (c : UInt8) : ∀ l : List UInt8, (spl c l).length = count l [c] + 1
  | [] => by simp [spl, count_one]
  | b :: l => by
    by_cases h : b = c
    · subst h; rw [spl_hit, count_cons_eq]; simp [spl_len b l]; omega
    · have := spl_len c l
      cases hs : spl c l with
      | nil => exact absurd hs (spl_ne c l)
      | cons x xs => rw [spl_miss h hs, count_cons_ne _ _ _ h, ← this, hs]; rfl
theorem idx_cons_eq (c : UInt8) (l : List UInt8) : index (c :: l) [c] = 0 := by simp [index]
theorem idx_cons_ne {b c : UInt8} {l : List UInt8} (h : b ≠ c) : index (b :: l) [c] = if index l [c] == -1 then -1 else index l [c] + 1 := by
  rw [index]; simp [Ne.symm h]
theorem idx_none {c : UInt8} : ∀ {l : List UInt8}, index l [c] = -1 → ∀ b ∈ l, b ≠ c
  | [], _, b, hb => by simp at hb
  | a :: l, h, b, hb => by
    by_cases ha : a = c
    · subst ha; rw [idx_cons_eq] at h; omega
    · rw [idx_cons_ne ha] at h
      have h2 : index l [c] = -1 := by
        have := index_ge l [c]
        by_cases h3 : index l [c] = -1
        · exact h3
        · simp [h3] at h; omega
      rcases List.mem_cons.1 hb with rfl | hb
      · exact ha
      · exact idx_none h2 b hb
theorem idx_some {c : UInt8} : ∀ {l : List UInt8} {i : Nat}, index l [c] = i → ∃ x r, l = x ++ c :: r ∧ x.length = i ∧ ∀ b ∈ x, b ≠ c
  | [], i, h => by simp [index] at h
  | a :: l, i, h => by
    by_cases ha : a = c
    · subst ha; rw [idx_cons_eq] at h
      exact ⟨[], l, rfl, by simp; omega, by simp⟩
    · rw [idx_cons_ne ha] at h
      by_cases h3 : index l [c] = -1
      · simp [h3] at h
      · have hg := index_ge l [c]
        rw [if_neg (by simpa using h3)] at h
        obtain ⟨x, r, h4, h5, h6⟩ := idx_some (c := c) (l := l) (i := i - 1) (by omega)
        refine ⟨a :: x, r, by rw [h4]; rfl, by simp; omega, ?_⟩
        intro b hb
        rcases List.mem_cons.1 hb with rfl | hb
        · exact ha
        · exact h6 b hb
/-- The kit's words for a split at one byte. -/
theorem splitK_one (c : UInt8) : ∀ (k : Nat) (l : List UInt8), count l [c] = k → splitK [c] 0 k l = spl c l
  | 0, l, h => by
    have h0 : ∀ b ∈ l, b ≠ c := by
      rw [count_one, List.count_eq_zero] at h
      exact fun b hb e => h (e ▸ hb)
    rw [splitK, spl_last h0]
  | k + 1, l, h => by
    rw [splitK]
    by_cases h1 : index l [c] = -1
    · have := idx_none h1
      have h0 : count l [c] = 0 := by rw [count_one, List.count_eq_zero]; exact fun hc => this c hc rfl
      omega
    · have hg := index_ge l [c]
      obtain ⟨i, hi⟩ : ∃ i : Nat, index l [c] = i := ⟨(index l [c]).toNat, by omega⟩
      obtain ⟨x, r, rfl, h5, h6⟩ := idx_some hi
      rw [if_neg (by simpa using h1), hi, spl_part h6]
      have h7 : count r [c] = k := by
        rw [count_one, List.count_append, List.count_cons_self] at h
        have : List.count c x = 0 := by rw [List.count_eq_zero]; exact fun hc => h6 c hc rfl
        rw [count_one]; omega
      have e1 : (((i : Nat) : Int)).toNat = x.length := by simp [h5]
      rw [e1]
      rw [List.length_singleton, show (x ++ c :: r).drop (x.length + 1) = r by rw [← List.drop_drop]; simp, splitK_one c k r h7]
      simp
end
theorem split_bs (c : UInt8) (l : List UInt8) : Lib.splitB (bsOf [c]) 0 (Lib.countB (bsOf l) (bsOf [c])) (bsOf l) = (spl c l).map bsOf := by
  have h := Lib.splitB_data (bsOf [c]) 0 (Lib.countB (bsOf l) (bsOf [c])) (bsOf l)
  simp only [bs_list] at h
  have hc : Lib.countB (bsOf l) (bsOf [c]) = Lib.count l [c] := by unfold Lib.countB; simp only [bs_list]
  rw [hc] at h ⊢
  rw [splitK_one c _ l rfl] at h
  rw [← h, List.map_map]
  have : (bsOf ∘ fun x : ByteArray => x.data.toList) = id := by funext b; exact (bs_of b).symm
  rw [this, List.map_id]
theorem resRep_new {w : World} {xs : List Value} {e : TypeId} (hx : Flat (.agg ⟨xs⟩) = true) :
    ∃ loc, ResRep (w.alloc (.cells ⟨xs⟩ e)) w.heap.size (.row true 1 (.v (.agg ⟨xs⟩)) xs.length) (.slice (some ⟨w.heap.size, 0, none⟩) xs.length xs.length) loc := by
  have hk : (w.alloc (.cells ⟨xs⟩ e)).heap[w.heap.size]? = some (.cells ⟨xs⟩ e (0, 0)) := by
    show (w.heap.push _)[w.heap.size]? = _
    simp
  have hs : (w.alloc (.cells ⟨xs⟩ e)).heap.size = w.heap.size + 1 := by
    show (w.heap.push _).size = _
    simp
  refine ⟨fun id => if id = (0, 0, 0) then some (some w.heap.size, xs.length) else none, rfl, ?_, ?_, ?_, ?_, ?_⟩
  · show Rep _ _ _ (.slc true 1 (0, 0, 0) 0 xs.length) _
    simp only [Rep]
    refine ⟨_, _, some w.heap.size, xs.length, rfl, Nat.le_refl _, by simp, by omega, fun _ => ⟨trivial, by omega⟩, 0, rfl, fun _ => rfl, fun _ => ⟨rfl, _, _, _, hk, by simp⟩⟩
  · intro id b n h
    split at h
    · simp only [Option.some.injEq, Prod.mk.injEq] at h; rw [hs]; omega
    · cases h
  · intro id l h
    split at h
    · rename_i he; subst he; exact ⟨rfl, rfl, rfl⟩
    · cases h
  · intro id id' b n n' h h'
    split at h
    · rename_i he
      split at h'
      · rename_i he'; rw [he, he']
      · cases h'
    · cases h
  · intro j c h
    cases j with
    | zero =>
      simp only [tops, impC, List.getElem?_cons_zero, rowC, Option.some.injEq] at h
      subst h
      refine ⟨some w.heap.size, xs, by simp, by simp [Rep, hx], ⟨xs⟩, e, hk, by simp, by simp⟩
    | succ j => simp [tops, impC] at h
theorem resRep_tup {w : World} {B : Nat} {xs : List Value} (hx : xs.all Flat = true) : ResRep w B (.tup (xs.map .v)) (.tuple ⟨xs⟩) noLoc := by
  have hrep : ∀ (ys : List Value) (j : Nat), ys.all Flat = true → RepL w B noLoc (impL 0 0 j (ys.map .v)) ys := by
    intro ys
    induction ys with
    | nil => intro j _; simp [impL, RepL]
    | cons y ys ih =>
      intro j h
      simp only [List.all_cons, Bool.and_eq_true] at h
      simp only [List.map_cons, impL, impD, RepL]
      exact ⟨y, ys, rfl, by simp [Rep, h.1], ih _ h.2⟩
  have hno : ∀ j, impC (xs.map D.v) j = none := by
    intro j
    unfold impC
    rw [List.getElem?_map]
    cases xs[j]? <;> rfl
  refine ⟨?_, ?_, ?_, ?_, ?_, ?_⟩
  · show cleanL (xs.map D.v) = true
    induction xs with
    | nil => rfl
    | cons x xs ih =>
      simp only [List.all_cons, Bool.and_eq_true] at hx
      simp only [List.map_cons, cleanL, clean, Bool.true_and]
      refine ih hx.2 fun j => ?_
      have := hno (j + 1)
      simpa [impC] using this
  · show Rep _ _ _ (.tup (impL 0 0 0 (xs.map .v))) _
    rw [Rep]
    exact ⟨xs, rfl, hrep xs 0 hx⟩
  · intro id b n h; simp [noLoc] at h
  · intro id l h; simp [noLoc] at h
  · intro id id' b n n' h; simp [noLoc] at h
  · intro j c h
    have := hno j
    simp only [tops] at h
    rw [this] at h; cases h
theorem Sat.of_calls_tup {P : Program} {g : FuncId} {args : List D} {xs : List Value} (hx : xs.all Flat = true) (hfn : ∃ fn c, P.funcs[g]? = some fn ∧ fn.body = some c ∧ (fn.name == "runtime.NumGoroutine") = false)
    (h : ∀ w vs, GlobOk w noLoc → RepL w w.heap.size noLoc args vs → Calls P g ⟨vs⟩ w fun e w' => e = .returned (.tuple ⟨xs⟩) ∧ RowKit.Below w.heap.size w w') : Sat P g args (.tup (xs.map .v)) := by
  refine ⟨hfn, fun w vs hg hr => (h w vs hg hr).mono ?_⟩
  rintro e w' ⟨rfl, hb⟩
  exact ⟨_, noLoc, rfl, hb, resRep_tup hx⟩
theorem maxLen_of {w : World} {g : Nat} (h : ∃ xs, (∃ m : Int, xs = [Value.int .i64 m]) ∧ Cells w g xs ∧ noLoc.avoids g) : ∃ m : Int, w.cell? ⟨g, 0, none⟩ = some (.int .i64 m) := by
  obtain ⟨xs, ⟨m, rfl⟩, ⟨e, fr, hk⟩, _⟩ := h
  exact ⟨m, by simp [World.cell?, hk]⟩
theorem flat_strs (ws : List ByteArray) : Flat (.agg ⟨strsC ws⟩) = true := by
  show (strsC ws).all Value.oneCell' = true
  rw [List.all_eq_true, strsC_def]
  intro x hx
  obtain ⟨b, _, rfl⟩ := List.mem_map.1 hx
  rfl
theorem byteAt_bs (l : List UInt8) (i : Nat) : byteAt (bsOf l) i = ((l.getD i 0).toNat : Int) := by unfold byteAt; rw [bs_list]
/-- What the reference's loop keeps: xs are the pieces that are done, one begins at b. -/
structure SplOk (c : UInt8) (l : List UInt8) (i b : Nat) (xs : List (List UInt8)) : Prop where
  le : b ≤ i ∧ i ≤ l.length
  no : ∀ j, b ≤ j → j < i → l[j]? ≠ some c
  eq : xs ++ spl c (l.drop b) = spl c l
  len : xs.length ≤ i
theorem SplOk.zero (c : UInt8) (l : List UInt8) : SplOk c l 0 0 [] := ⟨by omega, fun j h1 h2 => by omega, by simp, by simp⟩
theorem SplOk.piece {c : UInt8} {l : List UInt8} {i b : Nat} {xs : List (List UInt8)} (h : SplOk c l i b xs) : ∀ x ∈ (l.drop b).take (i - b), x ≠ c := by
  intro x hx e
  obtain ⟨j, hj⟩ := List.getElem?_of_mem hx
  rw [List.getElem?_take] at hj
  split at hj
  · rw [List.getElem?_drop] at hj
    exact h.no (b + j) (by omega) (by omega) (by rw [hj, e])
  · cases hj
theorem SplOk.miss {c : UInt8} {l : List UInt8} {i b : Nat} {xs : List (List UInt8)} (h : SplOk c l i b xs) (hl : i < l.length) (hi : l[i]? ≠ some c) : SplOk c l (i + 1) b xs := by
  have hle := h.le
  refine ⟨by omega, fun j h1 h2 => ?_, h.eq, by have := h.len; omega⟩
  by_cases e : j = i
  · subst e; exact hi
  · exact h.no j h1 (by omega)
theorem SplOk.done {c : UInt8} {l : List UInt8} {b : Nat} {xs : List (List UInt8)} (h : SplOk c l l.length b xs) : xs ++ [l.drop b] = spl c l := by
  have hp := h.piece
  rw [List.take_of_length_le (by simp)] at hp
  rw [← h.eq, spl_last hp]
end Go.V
namespace Go.Proofs.YtdbhfobnmlogeaaDoor
open Go.V
theorem split_sat (l : List UInt8) (hl : l.length ≤ 1048576) (c : UInt8) : Sat Tryd.prog 84 [.v (.string (bsOf l)), .v (.string (bsOf [c]))] (strsD true ((spl c l).map bsOf)) := by
  refine ⟨⟨_, _, Tryd.func84, rfl, rfl⟩, fun w vs hg hr => ?_⟩
  obtain rfl := repL_v (xs := [.string (bsOf l), .string (bsOf [c])]) hr
  obtain ⟨m, hm⟩ := maxLen_of (hg.any 0 _ rfl)
  refine (Tryd.strings_Split (bsOf l) (bsOf [c]) m w (by simp; omega) hm (by simp)).mono ?_
  rintro e w' ⟨rfl, rfl⟩
  have hlen : Lib.countB (bsOf l) (bsOf [c]) + 1 = (strsC ((spl c l).map bsOf)).length := by
    rw [strsC_len, List.length_map, spl_len]; unfold Lib.countB; simp only [bs_list]
  rw [split_bs, hlen]
  obtain ⟨loc, hres⟩ := resRep_new (w := w) (xs := strsC ((spl c l).map bsOf)) (e := 9) (flat_strs _)
  refine ⟨_, loc, rfl, ?_, ?_⟩
  · exact ⟨rfl, rfl, rfl, by simp, fun k hk => by
      show (w.heap.push _)[k]? = _
      rw [Array.getElem?_push, if_neg (Nat.ne_of_lt hk)]⟩
  · have e1 : ((strsC ((spl c l).map bsOf)).toArray) = ⟨strsC ((spl c l).map bsOf)⟩ := rfl
    unfold strsD
    rw [strsC_len] at hres ⊢
    rw [← strsC_def]
    exact hres
theorem cutSuffix_sat (l : List UInt8) (hl : l.length ≤ 1048576) (c : UInt8) : Sat Tryd.prog 116 [.v (.string (bsOf l)), .v (.string (bsOf [c]))] (.tup ([.string (bsOf (Lib.trimSuffix l [c])), .bool (Lib.hasSuffix l [c])].map .v)) := by
  refine Sat.of_calls_tup rfl ⟨_, _, Tryd.func116, rfl, rfl⟩ fun w vs hg hr => ?_
  obtain rfl := repL_v (xs := [.string (bsOf l), .string (bsOf [c])]) hr
  refine (Tryd.strings_CutSuffix (bsOf l) (bsOf [c]) w (by simp; omega)).mono ?_
  rintro e w' ⟨rfl, rfl⟩
  simp only [bs_list]
  exact ⟨rfl, RowKit.Below.refl _ _⟩
end Go.Proofs.YtdbhfobnmlogeaaDoor
/- Colours read from their text: plain words, both sides, and the law. -/
set_option linter.unusedVariables false
set_option linter.unusedSimpArgs false
namespace Go.V
/- Words for the walks of this text: their default arguments are tried where they are used. -/
theorem go_F5 {P Q : Prop} (k : Q) (h : P := by first | exact strOk (by first | omega | (simp; omega)) | exact Nat.le_of_ble_eq_true rfl | exact rfl | decide | omega | (simp [splice]; done) | (constructor <;> omega) | (simp [splice]; omega)) : P ∧ Q := ⟨h, k⟩
theorem lk_F5 {α : Type} {o : Option α} {K : α → Prop} {x : α} (k : K x) (h : o = some x := by first | exact strA (by simp; omega) | exact strA' (by simp; omega) | exact roofN (by omega) (by omega) | exact gridN (by omega) (by omega)) : optK o K := optK_of h k
theorem sc_F5 {P : Program} {g : FuncId} {args args' : List D} {res : D} (h : Sat P g args res) (e : args' = args := by repeat (first | rfl | exact vfull (by first | (simp [splice]; done) | (simp [splice]; omega)) | exact rfull (by first | (simp [splice]; done) | (simp [splice]; omega)) | exact vrow (by simp; done) (by omega) | exact vtiles (by simp) | exact vsplice (by simp) (by simp) | refine ceq ?_ ?_ | refine Eq.trans (vsplice (by first | (simp; done) | (simp; omega)) (by first | (simp; done) | (simp; omega))) ?_)) : Sat P g args' res := Sat.of_eq h e
theorem hold_F5 {P : Prop} (h : P := by (repeat' (first | exact trivial | apply And.intro)) <;> (first | rfl | exact succ8 (by omega) | exact succ64 (by omega) | exact CapOk.fn (by assumption) _ _ | exact vintS (by omega) | exact vintS (by rw [w64 (by omega) (by omega)]; omega) | exact vintS (by rw [w8 (by omega) (by omega)]; omega) | exact vslcS (by omega) | exact vslcS (by simp))) : P := h
theorem okt_F5 {P : Prop} (h : P := by first | omega | (dsimp only; omega) | ((repeat' apply And.intro) <;> omega) | (dsimp only; (repeat' apply And.intro) <;> omega) | trivial) : P := h
end Go.V
namespace Go.V
/-- Pieces, each with the byte behind it. -/
def catL (c : UInt8) (L : List (List UInt8)) : List UInt8 := L.flatMap (· ++ [c])
theorem spl_cat (c : UInt8) : ∀ l : List UInt8, catL c (spl c l) = l ++ [c]
  | [] => by simp [spl, catL]
  | b :: l => by
    have ih := spl_cat c l
    by_cases h : b = c
    · subst h; rw [spl_hit]; unfold catL at *; simp [ih]
    · cases hs : spl c l with
      | nil => exact absurd hs (spl_ne c l)
      | cons x xs =>
        rw [spl_miss h hs]
        rw [hs] at ih
        unfold catL at *
        simp only [List.flatMap_cons, List.cons_append] at ih ⊢
        rw [ih]
theorem spl_snoc (c : UInt8) : ∀ l : List UInt8, spl c (l ++ [c]) = spl c l ++ [[]]
  | [] => by simp [spl]
  | b :: l => by
    have ih := spl_snoc c l
    rw [List.cons_append]
    by_cases h : b = c
    · subst h; rw [spl_hit, spl_hit, ih]; rfl
    · cases hs : spl c l with
      | nil => exact absurd hs (spl_ne c l)
      | cons x xs =>
        rw [hs] at ih
        rw [spl_miss h hs, spl_miss h ih]; rfl
theorem suffix_iff {l : List UInt8} {c : UInt8} : Lib.hasSuffix l [c] = true ↔ ∃ o, l = o ++ [c] := by
  unfold Lib.hasSuffix
  rw [List.isSuffixOf_iff_suffix]
  constructor
  · rintro ⟨t, ht⟩; exact ⟨t, ht.symm⟩
  · rintro ⟨o, ho⟩; exact ⟨o, ho.symm⟩
theorem trim_snoc (o : List UInt8) (c : UInt8) : Lib.trimSuffix (o ++ [c]) [c] = o := by
  unfold Lib.trimSuffix
  rw [if_pos (suffix_iff.2 ⟨o, rfl⟩)]
  simp
/-- The last piece is empty, and it is not the only one: the text ends with the byte. -/
theorem spl_end {c : UInt8} {l : List UInt8} {L : List (List UInt8)} (h : spl c l = L ++ [[]]) (hL : L ≠ []) : Lib.hasSuffix l [c] = true := by
  have h1 := spl_cat c l
  rw [h] at h1
  unfold catL at h1
  rw [List.flatMap_append] at h1
  simp only [List.flatMap_cons, List.flatMap_nil, List.nil_append, List.append_nil] at h1
  have h2 : L.flatMap (· ++ [c]) = l := List.append_cancel_right h1
  rw [suffix_iff]
  have h3 : L = L.dropLast ++ [L.getLast hL] := (List.dropLast_concat_getLast hL).symm
  rw [h3, List.flatMap_append] at h2
  simp only [List.flatMap_cons, List.flatMap_nil, List.append_nil] at h2
  exact ⟨_, by rw [← h2, List.append_assoc]⟩
/-! Colours in lines. -/
def colN (x : List UInt8) : Nat → Nat
  | 0 => 0
  | k + 1 => if x.getD k 0 = 114 then colN x k + 2 ^ k else colN x k
theorem colN_lt (x : List UInt8) : ∀ k, colN x k < 2 ^ k
  | 0 => by simp [colN]
  | k + 1 => by
    have := colN_lt x k
    rw [colN, Nat.pow_succ]
    split <;> omega
theorem colN_bit (x : List UInt8) : ∀ k j, j < k → (colN x k).testBit j = decide (x.getD j 0 = 114)
  | 0, j, h => by omega
  | k + 1, j, h => by
    have hl := colN_lt x k
    rw [colN]
    by_cases hj : j = k
    · subst hj
      by_cases hx : x.getD j 0 = 114
      · rw [if_pos hx, Nat.add_comm, Nat.testBit_two_pow_add_eq, Nat.testBit_lt_two_pow hl, decide_eq_true hx]; rfl
      · rw [if_neg hx, Nat.testBit_lt_two_pow hl, decide_eq_false hx]
    · have ih := colN_bit x k j (by omega)
      by_cases hx : x.getD k 0 = 114
      · rw [if_pos hx, Nat.add_comm, Nat.testBit_two_pow_add_gt (by omega)]; exact ih
      · rw [if_neg hx]; exact ih
theorem bitR_fact : ∀ v : Nat, v < 256 → ∀ j : Nat, j < 8 → bitR (v : Int) j = v.testBit j := by decide +kernel
theorem or_fact : ∀ k : Nat, k < 8 → ∀ x : Nat, x < 2 ^ k → orU8 (x : Int) (IntKind.u8.wrap (1 * 2 ^ (min k IntKind.u8.bits))) = ((x + 2 ^ k : Nat) : Int) := by decide +kernel
theorem colN_or {x : List UInt8} {k : Nat} (hk : k < 8) (h : x.getD k 0 = 114) : orU8 ((colN x k : Nat) : Int) (IntKind.u8.wrap (1 * 2 ^ (min k IntKind.u8.bits))) = ((colN x (k + 1) : Nat) : Int) := by
  rw [or_fact k hk _ (colN_lt x k), colN, if_pos h]
theorem colN_in (x : List UInt8) {k : Nat} (hk : k ≤ 8) : colN x k < 256 := Nat.lt_of_lt_of_le (colN_lt x k) (Nat.pow_le_pow_right (by omega) hk)
/-- Lines as they are when nothing but reds and blues is in them. -/
def nrm (x : List UInt8) : List UInt8 := x.map fun b => if b = 114 then 114 else 98
theorem txtRow_bs {x : List UInt8} {w : Nat} (hw : w ≤ 8) (hx : x.length = w) (a : List UInt8) : ∀ k, k ≤ w → txtRow (bsOf a) ((colN x w : Nat) : Int) k = bsOf (a ++ (nrm x).take k)
  | 0, _ => by simp [txtRow]
  | k + 1, hk => by
    have ih := txtRow_bs hw hx a k (by omega)
    rw [txtRow, ih, bitR_fact _ (colN_in x hw) k (by omega), colN_bit x w k (by omega)]
    have hk' : k < x.length := by omega
    have e : (nrm x).take (k + 1) = (nrm x).take k ++ [if x.getD k 0 = 114 then 114 else 98] := by
      unfold nrm
      rw [List.take_add_one, List.getElem?_map, List.getD_eq_getElem?_getD]
      simp [hk']
    rw [e, ← List.append_assoc, ← bs_append (a ++ (nrm x).take k)]
    congr 1
    by_cases h : x.getD k 0 = 114
    · rw [if_pos h]; simp only [h]; rfl
    · rw [if_neg h]; simp only [h]; rfl
theorem txt_bs {L : List (List UInt8)} {w : Nat} (hw : w ≤ 8) (hL : ∀ x ∈ L, x.length = w) {f : Nat → Int} (hf : ∀ i, i < L.length → f i = ((colN (L.getD i []) w : Nat) : Int)) :
    ∀ n, n ≤ L.length → txt f w n = bsOf (catL 10 ((L.take n).map nrm))
  | 0, _ => by simp [txt, catL]; rfl
  | n + 1, hn => by
    have ih := txt_bs hw hL hf n (by omega)
    have hn' : n < L.length := by omega
    have hx : (L.getD n []).length = w := by
      rw [List.getD_eq_getElem?_getD, List.getElem?_eq_getElem hn']
      exact hL _ (List.getElem_mem hn')
    rw [txt, ih, hf n hn', txtRow_bs hw hx _ w (Nat.le_refl _)]
    have e : L.take (n + 1) = L.take n ++ [L.getD n []] := by
      rw [List.take_add_one, List.getD_eq_getElem?_getD]; simp [hn']
    rw [e, List.map_append]
    unfold catL
    rw [List.flatMap_append]
    have ht : (nrm (L.getD n [])).take w = nrm (L.getD n []) := List.take_of_length_le (by unfold nrm; rw [List.length_map, hx]; exact Nat.le_refl _)
    rw [ht]
    show bsOf _ ++ bsOf [10] = _
    rw [bs_append]
    simp
theorem cat_inj {c : UInt8} : ∀ {L M : List (List UInt8)}, L.map List.length = M.map List.length → catL c L = catL c M → L = M
  | [], [], _, _ => rfl
  | [], _ :: _, h, _ => by simp at h
  | _ :: _, [], h, _ => by simp at h
  | x :: L, y :: M, h, h2 => by
    simp only [List.map_cons, List.cons.injEq] at h
    unfold catL at h2
    simp only [List.flatMap_cons] at h2
    have h3 := List.append_inj h2 (by simp [h.1])
    have h4 := List.append_inj h3.1 h.1
    rw [h4.1, cat_inj h.2 h3.2]
def rbB (x : List UInt8) : Bool := x.all fun b => b == 114 || b == 98
theorem nrm_eq {x : List UInt8} : nrm x = x ↔ rbB x = true := by
  unfold nrm rbB
  induction x with
  | nil => simp
  | cons b x ih =>
    rw [List.map_cons, List.cons.injEq, ih, List.all_cons, Bool.and_eq_true]
    by_cases h : b = 114
    · subst h; simp
    · rw [if_neg h]
      have h1 : (b == 114) = false := by simpa using h
      rw [h1, Bool.false_or, beq_iff_eq]
      constructor
      · rintro ⟨h2, h3⟩; exact ⟨h2.symm, h3⟩
      · rintro ⟨h2, h3⟩; exact ⟨h2.symm, h3⟩
def rcL (l : List UInt8) : List (List UInt8) := spl 10 (Lib.trimSuffix l [10])
/-- One line of a text of colours. -/
def lnB (w : Int) (x : List UInt8) : Bool := decide ((x.length : Int) = w) && rbB x
def rcOk (r : Roof) (l : List UInt8) : Bool := Lib.hasSuffix l [10] && (decide (((rcL l).length : Int) = r.h) && (rcL l).all (lnB r.w))
def rcF (r : Roof) (l : List UInt8) : Nat → Int := if okR r = true ∧ rcOk r l = true then fun i => ((colN ((rcL l).getD i []) r.w.toNat : Nat) : Int) else fun _ => 0
def rcK (r : Roof) (l : List UInt8) : Int := if okR r = true then (if rcOk r l = true then 0 else 5) else 1
def rcV (r : Roof) (l : List UInt8) : D := .tup [row8D (rcF r l), .v (.int .i64 (rcK r l))]
theorem rcV_bad {r : Roof} {l : List UInt8} (h : okR r = false) : rcV r l = .tup [row8D fun _ => 0, .v (.int .i64 1)] := by
  unfold rcV rcF rcK
  rw [if_neg (by simp [h]), if_neg (by simp [h])]
theorem rcV_no {r : Roof} {l : List UInt8} (h : okR r = true) (h2 : rcOk r l = false) : rcV r l = .tup [row8D fun _ => 0, .v (.int .i64 5)] := by
  unfold rcV rcF rcK
  rw [if_neg (by simp [h2]), if_pos h, if_neg (by simp [h2])]
theorem rcV_yes {r : Roof} {l : List UInt8} (h : okR r = true) (h2 : rcOk r l = true) : rcV r l = .tup [row8D fun i => ((colN ((rcL l).getD i []) r.w.toNat : Nat) : Int), .v (.int .i64 0)] := by
  unfold rcV rcF rcK
  rw [if_pos ⟨h, h2⟩, if_pos h, if_pos h2]
theorem rcOk_yes {r : Roof} {l : List UInt8} (h1 : Lib.hasSuffix l [10] = true) (h2 : ((rcL l).length : Int) = r.h) (h3 : ∀ i, i < (rcL l).length → lnB r.w ((rcL l).getD i []) = true) : rcOk r l = true := by
  unfold rcOk
  rw [h1, Bool.true_and, Bool.and_eq_true, List.all_eq_true]
  refine ⟨by simpa using h2, fun x hx => ?_⟩
  obtain ⟨i, hi⟩ := List.getElem?_of_mem hx
  have hl := (List.getElem?_eq_some_iff.1 hi).1
  have := h3 i hl
  rw [List.getD_eq_getElem?_getD, hi] at this
  exact this
theorem rcOk_ln {r : Roof} {l : List UInt8} (h : rcOk r l = true) {i : Nat} (hi : i < (rcL l).length) : lnB r.w ((rcL l).getD i []) = true := by
  unfold rcOk at h
  rw [Bool.and_eq_true, Bool.and_eq_true, List.all_eq_true] at h
  refine h.2.2 _ ?_
  rw [List.getD_eq_getElem?_getD, List.getElem?_eq_getElem hi]
  exact List.getElem_mem hi
theorem rcOk_suf {r : Roof} {l : List UInt8} (h : rcOk r l = true) : Lib.hasSuffix l [10] = true ∧ ((rcL l).length : Int) = r.h := by
  unfold rcOk at h
  rw [Bool.and_eq_true, Bool.and_eq_true] at h
  exact ⟨h.1, by simpa using h.2.1⟩
theorem rcOk_no {r : Roof} {l : List UInt8} {i : Nat} (hi : i < (rcL l).length) (h : lnB r.w ((rcL l).getD i []) = false) : rcOk r l = false := by
  cases h2 : rcOk r l with
  | false => rfl
  | true => rw [rcOk_ln h2 hi] at h; cases h
theorem rcL_snoc (o : List UInt8) : rcL (o ++ [10]) = spl 10 o := by unfold rcL; rw [trim_snoc]
/-- The reference's lines, and the program's. -/
theorem rc_lines {l : List UInt8} (h : Lib.hasSuffix l [10] = true) : spl 10 l = rcL l ++ [[]] := by
  obtain ⟨o, rfl⟩ := suffix_iff.1 h
  rw [rcL_snoc, spl_snoc]
/-- Rows of colours as far as some place. -/
def GcR (L : List (List UInt8)) (w i : Nat) (v : Nat) : Nat → Int := fun j => if j < i then ((colN (L.getD j []) w : Nat) : Int) else if j = i then (v : Int) else 0
theorem GcR_zero (L : List (List UInt8)) (w : Nat) : GcR L w 0 0 = fun _ => 0 := by funext j; unfold GcR; simp
theorem GcR_next (L : List (List UInt8)) (w i : Nat) : GcR L w i (colN (L.getD i []) w) = GcR L w (i + 1) 0 := by
  funext j
  unfold GcR
  by_cases h1 : j < i
  · rw [if_pos h1, if_pos (by omega)]
  · rw [if_neg h1]
    by_cases h2 : j = i
    · subst h2; rw [if_pos rfl, if_pos (by omega)]
    · rw [if_neg h2, if_neg (by omega)]; split <;> rfl
theorem GcR_set (L : List (List UInt8)) (w i v v' : Nat) : (row8 (GcR L w i v)).set i (.int .u8 (v' : Int)) = row8 (GcR L w i v') := by
  have h := row8_set (f := GcR L w i v) (g := GcR L w i v') (c := i) (fun j hj => by unfold GcR; simp [hj])
  have e : GcR L w i v' i = (v' : Int) := by unfold GcR; simp
  rw [e] at h
  exact h
theorem GcR_at (L : List (List UInt8)) (w i v : Nat) : GcR L w i v i = (v : Int) := by unfold GcR; simp
theorem colN_nil : ∀ k, colN [] k = 0
  | 0 => rfl
  | k + 1 => by rw [colN, if_neg (by simp), colN_nil k]
theorem GcR_all {L : List (List UInt8)} {w : Nat} : GcR L w L.length 0 = fun i => ((colN (L.getD i []) w : Nat) : Int) := by
  funext j
  unfold GcR
  by_cases h1 : j < L.length
  · rw [if_pos h1]
  · rw [if_neg h1, List.getD_eq_getElem?_getD, List.getElem?_eq_none (by omega)]
    show _ = ((colN [] w : Nat) : Int)
    rw [colN_nil]; split <;> rfl
theorem sx_map (M : List (List UInt8)) (i : Nat) : sx (M.map bsOf) i = bsOf (M.getD i []) := by
  unfold sx
  rw [List.getD_eq_getElem?_getD, List.getElem?_map, List.getD_eq_getElem?_getD]
  cases M[i]? <;> rfl
theorem rb_yes {x : List UInt8} (h : ∀ j, j < x.length → x.getD j 0 = 114 ∨ x.getD j 0 = 98) : rbB x = true := by
  unfold rbB
  rw [List.all_eq_true]
  intro b hb
  obtain ⟨j, hj⟩ := List.getElem?_of_mem hb
  have hl := (List.getElem?_eq_some_iff.1 hj).1
  have := h j hl
  rw [List.getD_eq_getElem?_getD, hj] at this
  simpa using this
theorem byteIs {x : List UInt8} {k : Nat} (c : Nat) (hc : c < 256) : (byteAt (bsOf x) k == (c : Int)) = decide (x.getD k 0 = UInt8.ofNat c) := by
  rw [byteAt_bs, Bool.eq_iff_iff]
  simp only [beq_iff_eq, decide_eq_true_eq]
  have e : (UInt8.ofNat c).toNat = c := by simp [UInt8.toNat_ofNat']; omega
  constructor
  · intro h; exact UInt8.toNat_inj.1 (by omega)
  · intro h; rw [h]; omega
end Go.V
namespace Go.Proofs.YtdbhfobnmlogeaaDoor
open Go.V
theorem linesOf_sat (l : List UInt8) (hl : l.length ≤ 1048576) : Sat Tryd.prog 57 [.v (.string (bsOf l))] (.tup [strsD true ((rcL l).map bsOf), .v (.bool (Lib.hasSuffix l [10]))]) := by
  have htl : (Lib.trimSuffix l [10]).length ≤ 1048576 := by unfold Lib.trimSuffix; split <;> first | (rw [List.length_take]; omega) | omega
  refine sat_of_wp hMix tOk Tryd.func57 rfl rfl Tryd.ntmps57 rfl rfl Tryd.results57 (by kernel_rfl) ?_
  conv => whnf
  repeat (first | (refine go_F5 ?_; conv => whnf) | (refine lk_F5 ?_; conv => whnf))
  first | refine ⟨_, _, rfl, sc_F5 (cutSuffix_sat l hl 10), ?_⟩ | refine .inl ⟨_, _, rfl, sc_F5 (cutSuffix_sat l hl 10), ?_⟩
  conv => whnf
  repeat (first | (refine go_F5 ?_; conv => whnf) | (refine lk_F5 ?_; conv => whnf))
  first | refine ⟨_, _, rfl, sc_F5 (split_sat (Lib.trimSuffix l [10]) htl 10), ?_⟩ | refine .inl ⟨_, _, rfl, sc_F5 (split_sat (Lib.trimSuffix l [10]) htl 10), ?_⟩
  conv => whnf
  repeat (first | (refine go_F5 ?_; conv => whnf) | (refine lk_F5 ?_; conv => whnf))
  first | refine ⟨rfl, _, rfl, ?_⟩ | refine ⟨_, rfl, ?_⟩
  rfl
theorem implReadColours_sat (r : Roof) (hr : r.In) (l : List UInt8) (hl : l.length ≤ 1048576) : Sat Tryd.prog 13 [roofD r, .v (.string (bsOf l))] (rcV r l) := by
  have hz : (splice (List.replicate 8 (Value.int .u8 0)) 0 (List.replicate 8 (.int .u8 0))) = List.replicate 8 (.int .u8 0) := splice_all (by simp)
  have bad : ∀ x : Int, D.tup [row8D fun _ => 0, .v (.int .i64 x)] = one' [D.v (.agg ⟨(((splice (List.replicate 8 (Value.int .u8 0)) 0 (List.replicate 8 (.int .u8 0))).drop 0).take 8)⟩), .v (.int .i64 x)] := fun x => by
    rw [hz, take_drop0 (by simp)]; unfold row8D; rw [row8_zero]; rfl
  refine sat_of_wp hMix tOk Tryd.func13 rfl rfl Tryd.ntmps13 rfl rfl Tryd.results13 (by kernel_rfl) ?_
  conv => whnf
  repeat (first | (refine go_F5 ?_; conv => whnf) | (refine lk_F5 ?_; conv => whnf))
  first | refine ⟨_, _, rfl, sc_F5 (validRoof_sat r hr), ?_⟩ | refine .inl ⟨_, _, rfl, sc_F5 (validRoof_sat r hr), ?_⟩
  conv => whnf
  repeat (first | (refine go_F5 ?_; conv => whnf) | (refine lk_F5 ?_; conv => whnf))
  cases hR : okR r
  · conv => whnf
    repeat (first | (refine go_F5 ?_; conv => whnf) | (refine lk_F5 ?_; conv => whnf))
    first | refine ⟨rfl, _, rfl, ?_⟩ | refine ⟨_, rfl, ?_⟩
    skip
    rw [rcV_bad hR]; exact bad 1
  have hb := okR_bounds hR
  have eH : IntKind.i64.wrap r.h = r.h := w64 (by omega) (by omega)
  have eW : IntKind.i64.wrap r.w = r.w := w64 (by omega) (by omega)
  have htl : (Lib.trimSuffix l [10]).length ≤ 1048576 := by unfold Lib.trimSuffix; split <;> first | (rw [List.length_take]; omega) | omega
  have hMs : (rcL l).length ≤ 1048577 := by unfold rcL; rw [spl_len, Lib.count_one]; have := List.count_le_length (a := (10 : UInt8)) (l := Lib.trimSuffix l [10]); omega
  conv => whnf
  repeat (first | (refine go_F5 ?_; conv => whnf) | (refine lk_F5 ?_; conv => whnf))
  first | refine ⟨_, _, rfl, sc_F5 (linesOf_sat l hl), ?_⟩ | refine .inl ⟨_, _, rfl, sc_F5 (linesOf_sat l hl), ?_⟩
  conv => whnf
  repeat (first | (refine go_F5 ?_; conv => whnf) | (refine lk_F5 ?_; conv => whnf))
  cases hsuf : Lib.hasSuffix l [10]
  · have hno : rcOk r l = false := by unfold rcOk; rw [hsuf]; rfl
    rw [rcV_no hR hno]
    conv => whnf
    repeat (first | (refine go_F5 ?_; conv => whnf) | (refine lk_F5 ?_; conv => whnf))
    first | refine ⟨rfl, _, rfl, ?_⟩ | refine ⟨_, rfl, ?_⟩
    skip
    exact bad 5
  conv => whnf
  repeat (first | (refine go_F5 ?_; conv => whnf) | (refine lk_F5 ?_; conv => whnf))
  rw [eH]
  cases h2 : (((List.map bsOf (rcL l)).length : Int) != r.h)
  case true =>
    have hno : rcOk r l = false := by
      cases h3 : rcOk r l with
      | false => rfl
      | true =>
        have h5 := (rcOk_suf h3).2
        rw [List.length_map] at h2
        simp at h2
        omega
    rw [rcV_no hR hno]
    conv => whnf
    repeat (first | (refine go_F5 ?_; conv => whnf) | (refine lk_F5 ?_; conv => whnf))
    first | refine ⟨rfl, _, rfl, ?_⟩ | refine ⟨_, rfl, ?_⟩
    skip
    exact bad 5
  have hLh : ((rcL l).length : Int) = r.h := by rw [List.length_map] at h2; simpa using h2
  have hget : ∀ i, sx ((rcL l).map bsOf) i = bsOf ((rcL l).getD i []) := fun i => sx_map _ _
  have hlenM : (List.map bsOf (rcL l)).length = (rcL l).length := by rw [List.length_map]
  generalize hws : (rcL l).map bsOf = ws at *
  generalize hLL : rcL l = L at *
  conv => whnf
  repeat (first | (refine go_F5 ?_; conv => whnf) | (refine lk_F5 ?_; conv => whnf))
  refine loop_rule (α := Nat) (fun i => [(1, .v (.string (bsOf l))), (2, .ptr (2, 0, 0) 0), (4, .ptr (4, 0, 0) 0), (8, .ptr (8, 0, 0) 0), (32, .slc true 1 (18, 0, 0) 0 ws.length), (33, .v (.int .i64 ws.length)), (34, .v (.int .i64 i))]) (fun i => [((2, 0, 0), roofD r), ((4, 0, 0), .v (.agg ⟨List.replicate 8 (.int .u8 0)⟩)), ((8, 0, 0), row8D (GcR L r.w.toNat i 0)), ((18, 0, 0), .v (.agg ⟨strsC ws⟩))]) (fun i => i ≤ L.length ∧ ∀ j, j < i → (L.getD j []).length = r.w.toNat) (fun i => L.length - i) (0) ?_ (sim_of (rn := [((2, 0, 0), (2, 0, 0)), ((4, 0, 0), (4, 0, 0)), ((8, 0, 0), (8, 0, 0)), ((18, 0, 0), (18, 0, 0))]) rfl ?_ ?_) ?_
  · exact ⟨by omega, fun j hj => by omega⟩
  · exact hold_F5
  · ((repeat' (first | exact trivial | apply And.intro)) <;> ((first | refine ⟨_, _, rfl, rfl, ?_⟩ ); first | rfl | (exact cset (by rw [GcR_zero, row8_zero]))))
  rintro i ⟨hi, hall⟩
  conv => whnf
  repeat (first | (refine go_F5 ?_; conv => whnf) | (refine lk_F5 ?_; conv => whnf))
  cases h4 : decide ((i : Int) < (ws.length : Int))
  · have hiK : i = L.length := by simp at h4; omega
    subst hiK
    have hlen : ∀ x ∈ L, x.length = r.w.toNat := fun x hx => by
      obtain ⟨j, hj⟩ := List.getElem?_of_mem hx
      have hl := (List.getElem?_eq_some_iff.1 hj).1
      have := hall j hl
      rw [List.getD_eq_getElem?_getD, hj] at this
      exact this
    have hrow : RowIn (GcR L r.w.toNat L.length 0) := ⟨fun j => by
      rw [GcR_all]
      have := colN_in (L.getD j []) (k := r.w.toNat) (by omega)
      dsimp only
      omega⟩
    have htxt := txt_bs (L := L) (w := r.w.toNat) (by omega) hlen (f := GcR L r.w.toNat L.length 0) (fun j _ => by rw [GcR_all]) L.length (Nat.le_refl _)
    rw [List.take_length] at htxt
    have sT := coloursText_sat r hr _ hrow hb
    rw [show r.h.toNat = L.length by omega, htxt] at sT
    have hcat : catL 10 L = l := by
      obtain ⟨o, ho⟩ := suffix_iff.1 hsuf
      rw [← hLL, ho, rcL_snoc, spl_cat]
    conv => whnf
    repeat (first | (refine go_F5 ?_; conv => whnf) | (refine lk_F5 ?_; conv => whnf))
    first | refine ⟨_, _, rfl, sc_F5 (sT), ?_⟩ | refine .inl ⟨_, _, rfl, sc_F5 (sT), ?_⟩
    conv => whnf
    repeat (first | (refine go_F5 ?_; conv => whnf) | (refine lk_F5 ?_; conv => whnf))
    by_cases hrb : ∀ x ∈ L, rbB x = true
    · have hyes : rcOk r l = true := rcOk_yes hsuf (by rw [hLL]; exact hLh) (by
        rw [hLL]
        intro j hj
        unfold lnB
        have h1 := hall j hj
        have h2 := hrb (L.getD j []) (by rw [List.getD_eq_getElem?_getD, List.getElem?_eq_getElem hj]; exact List.getElem_mem hj)
        rw [h2, decide_eq_true (by omega)]; rfl)
      have heq : L.map nrm = L := by
        conv => rhs; rw [← List.map_id L]
        exact List.map_congr_left fun x hx => nrm_eq.2 (hrb x hx)
      rw [heq, hcat, show (!((bsOf l).toList == (bsOf l).toList)) = false by simp]
      rw [rcV_yes hR hyes, hLL, ← GcR_all]
      conv => whnf
      repeat (first | (refine go_F5 ?_; conv => whnf) | (refine lk_F5 ?_; conv => whnf))
      first | refine ⟨rfl, _, rfl, ?_⟩ | refine ⟨_, rfl, ?_⟩
      skip
      exact congrArg (fun z => D.tup [D.v (.agg ⟨z⟩), .v (.int .i64 0)]) (copied (n := 8) (by simp) (by simp)).symm
    · have hno : rcOk r l = false := by
        cases h3 : rcOk r l with
        | false => rfl
        | true =>
          refine absurd (fun x hx => ?_) hrb
          obtain ⟨j, hj⟩ := List.getElem?_of_mem hx
          have hl := (List.getElem?_eq_some_iff.1 hj).1
          have := rcOk_ln h3 (i := j) (by rw [hLL]; exact hl)
          rw [hLL, List.getD_eq_getElem?_getD, hj] at this
          unfold lnB at this
          rw [Bool.and_eq_true] at this
          exact this.2
      have hneq : ¬ catL 10 (L.map nrm) = l := fun h => by
        rw [← hcat] at h
        have h5 := cat_inj (by rw [List.map_map]; exact List.map_congr_left fun x _ => by simp [nrm]) h
        refine hrb fun x hx => nrm_eq.1 ?_
        obtain ⟨j, hj⟩ := List.getElem?_of_mem hx
        have h6 : (L.map nrm)[j]? = L[j]? := by rw [h5]
        rw [List.getElem?_map, hj] at h6
        simpa using h6
      rw [show (!((bsOf (catL 10 (L.map nrm))).toList == (bsOf l).toList)) = true by rw [bs_toList, bs_toList]; simpa using hneq]
      rw [rcV_no hR hno]
      conv => whnf
      repeat (first | (refine go_F5 ?_; conv => whnf) | (refine lk_F5 ?_; conv => whnf))
      first | refine ⟨rfl, _, rfl, ?_⟩ | refine ⟨_, rfl, ?_⟩
      skip
      exact bad 5
  have hiK : i < L.length := by simp at h4; omega
  have hi8 : i < 8 := by omega
  have hgi : sx ws ((i : Int).toNat * ti9.size) = bsOf (L.getD i []) := by
    show sx ws ((i : Int).toNat * 1) = _
    rw [show (i : Int).toNat * 1 = i by omega]; exact hget i
  have hnoi : lnB r.w (L.getD i []) = false → rcOk r l = false := fun h => rcOk_no (i := i) (by rw [hLL]; omega) (by rw [hLL]; exact h)
  have nxt := fun h => (⟨by omega, below_succ (p := fun j => (L.getD j []).length = r.w.toNat) hall h⟩ : i + 1 ≤ L.length ∧ ∀ j, j < i + 1 → (L.getD j []).length = r.w.toNat)
  have hstep := GcR_next L r.w.toNat i
  have hset := GcR_set L r.w.toNat i
  have hat := GcR_at L r.w.toNat i
  generalize hxx : L.getD i [] = x at *
  conv => whnf
  repeat (first | (refine go_F5 ?_; conv => whnf) | (refine lk_F5 ?_; conv => whnf))
  rw [hgi, eW]
  cases h5 : (((bsOf x).size : Int) != r.w)
  case true =>
    rw [rcV_no hR (hnoi (by unfold lnB; rw [show decide ((x.length : Int) = r.w) = false by simpa using h5]; rfl))]
    conv => whnf
    repeat (first | (refine go_F5 ?_; conv => whnf) | (refine lk_F5 ?_; conv => whnf))
    first | refine ⟨rfl, _, rfl, ?_⟩ | refine ⟨_, rfl, ?_⟩
    skip
    exact bad 5
  have hxw : (x.length : Int) = r.w := by simpa using h5
  have hw8 : r.w.toNat = x.length := by omega
  rw [hw8] at hstep hset hat
  conv => whnf
  repeat (first | (refine go_F5 ?_; conv => whnf) | (refine lk_F5 ?_; conv => whnf))
  refine loop_rule (α := Nat) (fun k => [(1, .v (.string (bsOf l))), (2, .ptr (2, 0, 0) 0), (4, .ptr (4, 0, 0) 0), (8, .ptr (8, 0, 0) 0), (9, .v (.int .i64 i)), (10, .v (.string (bsOf x))), (32, .slc true 1 (18, 0, 0) 0 ws.length), (33, .v (.int .i64 ws.length)), (34, .v (.int .i64 i)), (47, .v (.int .i64 x.length)), (48, .v (.int .i64 k))]) (fun k => [((2, 0, 0), roofD r), ((4, 0, 0), .v (.agg ⟨List.replicate 8 (.int .u8 0)⟩)), ((8, 0, 0), row8D (GcR L x.length i (colN x k))), ((18, 0, 0), .v (.agg ⟨strsC ws⟩))]) (fun k => k ≤ x.length) (fun k => x.length - k) (0) ?_ (sim_of (rn := [((2, 0, 0), (2, 0, 0)), ((4, 0, 0), (4, 0, 0)), ((8, 0, 0), (8, 0, 0)), ((18, 0, 0), (18, 0, 0))]) rfl ?_ ?_) ?_
  · exact okt_F5
  · exact hold_F5
  · ((repeat' (first | exact trivial | apply And.intro)) <;> ((first | refine ⟨_, _, rfl, rfl, ?_⟩ ); first | rfl | (first | rfl | (rw [hw8]; rfl))))
  intro k hk
  conv => whnf
  repeat (first | (refine go_F5 ?_; conv => whnf) | (refine lk_F5 ?_; conv => whnf))
  cases h6 : decide ((k : Int) < (x.length : Int))
  · have hkx : k = x.length := by simp at h6; omega
    subst hkx
    rw [hstep]
    conv => whnf
    repeat (first | (refine go_F5 ?_; conv => whnf) | (refine lk_F5 ?_; conv => whnf))
    refine ⟨i + 1, ?_, ?_, sim_of (rn := [((2, 0, 0), (2, 0, 0)), ((4, 0, 0), (4, 0, 0)), ((8, 0, 0), (8, 0, 0)), ((18, 0, 0), (18, 0, 0))]) rfl ?_ ?_⟩
    · (dsimp only; omega)
    · exact nxt hw8.symm
    · exact hold_F5
    · ((repeat' (first | exact trivial | apply And.intro)) <;> ((first | refine ⟨_, _, rfl, rfl, ?_⟩ ); first | rfl | (first | rfl | (rw [hw8]; rfl))))
  have hkx : k < x.length := by simpa using h6
  have hk8 : k < 8 := by omega
  conv => whnf
  repeat (first | (refine go_F5 ?_; conv => whnf) | (refine lk_F5 ?_; conv => whnf))
  have hB1 : (byteAt (bsOf x) k == 114) = decide (x.getD k 0 = 114) := byteIs 114 (by omega)
  rw [show byteAt (bsOf x) (k : Int).toNat = byteAt (bsOf x) k by rw [Int.toNat_natCast], hB1]
  cases h7 : decide (x.getD k 0 = 114)
  · have hn1 : ¬ x.getD k 0 = 114 := by simpa using h7
    have ek : colN x (k + 1) = colN x k := by rw [colN, if_neg hn1]
    conv => whnf
    repeat (first | (refine go_F5 ?_; conv => whnf) | (refine lk_F5 ?_; conv => whnf))
    refine ⟨k + 1, ?_, ?_, sim_of (rn := [((2, 0, 0), (2, 0, 0)), ((4, 0, 0), (4, 0, 0)), ((8, 0, 0), (8, 0, 0)), ((18, 0, 0), (18, 0, 0))]) rfl ?_ ?_⟩
    · (dsimp only; omega)
    · exact okt_F5
    · exact hold_F5
    · ((repeat' (first | exact trivial | apply And.intro)) <;> ((first | refine ⟨_, _, rfl, rfl, ?_⟩ ); first | rfl | ((rw [ek]; rfl))))
  · have hy : x.getD k 0 = 114 := by simpa using h7
    have hor := colN_or hk8 hy
    conv => whnf
    repeat (first | (refine go_F5 ?_; conv => whnf) | (refine lk_F5 ?_; conv => whnf))
    refine optK_of (row8_get (k := i) (by show 0 + (i : Int).toNat * 1 = i; omega) hi8) ?_
    rw [hat]
    conv => whnf
    repeat (first | (refine go_F5 ?_; conv => whnf) | (refine lk_F5 ?_; conv => whnf))
    have setA : (row8 (GcR L x.length i (colN x k))).set (0 + (i : Int).toNat * 1) (.int .u8 (orU8 ((colN x k : Nat) : Int) (IntKind.u8.wrap (1 * 2 ^ (min (k : Int).toNat IntKind.u8.bits))))) = row8 (GcR L x.length i (colN x (k + 1))) := by
      rw [show 0 + (i : Int).toNat * 1 = i by omega, Int.toNat_natCast, hor, hset]
    refine ⟨k + 1, ?_, ?_, sim_of (rn := [((2, 0, 0), (2, 0, 0)), ((4, 0, 0), (4, 0, 0)), ((8, 0, 0), (8, 0, 0)), ((18, 0, 0), (18, 0, 0))]) rfl ?_ ?_⟩
    · (dsimp only; omega)
    · exact okt_F5
    · exact hold_F5
    · ((repeat' (first | exact trivial | apply And.intro)) <;> ((first | refine ⟨_, _, rfl, rfl, ?_⟩ ); first | rfl | (exact cset setA)))
end Go.Proofs.YtdbhfobnmlogeaaDoor
/- Plain words: lists of things of a fixed number of cells; lists of roofs. -/
set_option linter.unusedVariables false
set_option linter.unusedSimpArgs false
namespace Go.V
section
variable {α : Type} {f : α → List Value} {n : Nat}
theorem fm_len (hf : ∀ x, (f x).length = n) : ∀ l : List α, (l.flatMap f).length = l.length * n
  | [] => by simp
  | x :: l => by rw [List.flatMap_cons, List.length_append, hf, fm_len hf l, List.length_cons, Nat.succ_mul]; omega
end
@[irreducible] def roofsC (rs : List Roof) : List Value := rs.flatMap roofC
theorem roofsC_def (rs : List Roof) : roofsC rs = rs.flatMap roofC := by unfold roofsC; rfl
@[simp] theorem roofsC_len (rs : List Roof) : (roofsC rs).length = rs.length * 67 := by rw [roofsC_def, fm_len roofC_len]
/-- What a pointer into a list of cells leads to, told as cells of its own. -/
theorem Rep.refSub {w : World} {base : Nat} {loc : Loc} {m : Bool} {xs ys : List Value} {off n : Nat} {y : Value} (h : Rep w base loc (.ref m (.v (.agg ⟨xs⟩)) off) y) (hn : (xs.drop off).take n = ys) (hl : ys.length = n) (hpos : 0 < n) :
    Rep w base loc (.ref m (.v (.agg ⟨ys⟩)) 0) y := by
  simp only [Rep] at h ⊢
  obtain ⟨b, o, zs, rfl, hat, hav, hm, hz, hfl⟩ := h
  cases hz
  refine ⟨b, o + off, ys, rfl, ?_, hav, hm, rfl, ?_⟩
  · obtain ⟨k, e, fr, h1, h2, h3⟩ := hat
    have hle : off + n ≤ xs.length := by
      have := congrArg List.length hn
      simp at this
      omega
    refine ⟨k, e, fr, h1, by omega, ?_⟩
    have : ((k.toList.drop o).take xs.length).drop off = xs.drop off := by rw [h3]
    rw [hl, ← hn, ← this, List.drop_take, List.take_take, List.drop_drop, show min n (xs.length - off) = n by omega]
  · simp only [Flat, List.all_eq_true] at hfl ⊢
    intro x hx
    rw [← hn] at hx
    exact hfl x (List.mem_of_mem_drop (List.mem_of_mem_take hx))
theorem Sat.sub {P : Program} {g : FuncId} {m : Bool} {xs ys : List Value} {off n : Nat} {rest : List D} {res : D} (h : Sat P g (.ref m (.v (.agg ⟨ys⟩)) 0 :: rest) res) (hn : (xs.drop off).take n = ys) (hl : ys.length = n) (hpos : 0 < n) :
    Sat P g (.ref m (.v (.agg ⟨xs⟩)) off :: rest) res := by
  refine ⟨h.1, fun w vs hgl hr => h.2 w vs hgl ?_⟩
  simp only [RepL] at hr ⊢
  obtain ⟨y, yss, rfl, h1, h2⟩ := hr
  exact ⟨y, yss, rfl, h1.refSub hn hl hpos, h2⟩
end Go.V
/- Contracts: what the laws do with lists of roofs; roofs that are all as told. -/
set_option linter.unusedVariables false
set_option linter.unusedSimpArgs false
namespace Go.V
def idxX {α : Type} (p : α → Bool) (d : α) (l : List α) : Int := match (List.range l.length).find? (fun i => p (l.getD i d)) with | some i => (i : Int) | none => -1
end Go.V
namespace Go.Proofs.YtdbhfobnmlogeaaDoor
open Go.V
end Go.Proofs.YtdbhfobnmlogeaaDoor
/- Contracts: roofs that are all as told; whether roofs might be. -/
set_option linter.unusedVariables false
set_option linter.unusedSimpArgs false
namespace Go.V
end Go.V
namespace Go.Proofs.YtdbhfobnmlogeaaDoor
open Go.V
end Go.Proofs.YtdbhfobnmlogeaaDoor
/- Contracts: numbers for roofs that drip alike, both sides. -/
set_option linter.unusedVariables false
set_option linter.unusedSimpArgs false
namespace Go.V
/-- Whether two tables are one. -/
def eqD (f g : Nat → Nat → Int) : Bool := (List.range 136).all fun k => f (k / 17) (k % 17) == g (k / 17) (k % 17)
abbrev Tb := Nat → Nat → Int
def zT : Tb := fun _ _ => 0
@[irreducible] def drsC (ds : List Tb) : List Value := ds.flatMap dripC
theorem drsC_def (ds : List Tb) : drsC ds = ds.flatMap dripC := by unfold drsC; rfl
@[simp] theorem drsC_len (ds : List Tb) : (drsC ds).length = ds.length * 136 := by rw [drsC_def, fm_len dripC_len]
/-- Where a table is met first. -/
def gIx (ds : List Tb) (f : Tb) : Int := idxX (eqD f) zT ds
def gNo (ds : List Tb) (f : Tb) : Nat := if gIx ds f < 0 then ds.length else (gIx ds f).toNat
/-- The tables that were met, and the numbers of the first i roofs. -/
def snL (F : Nat → Tb) : Nat → List Tb
  | 0 => []
  | i + 1 => if gIx (snL F i) (F i) < 0 then snL F i ++ [F i] else snL F i
def goL (F : Nat → Tb) (n : Nat) : List Int := qL (fun i => (gNo (snL F i) (F i) : Nat)) n
@[simp] theorem goL_len (F : Nat → Tb) (n : Nat) : (goL F n).length = n := qL_len _ n
theorem nth_part {a x y : D} : ∀ (q : Nat) (c : D), nth [a, x] q = some c → ∃ c0, nth [a, y] q = some c0 ∧ (c0 = c ∨ (c0 = y ∧ c = x))
  | 0, c, h => ⟨a, rfl, .inl (by simpa [nth] using h)⟩
  | 1, c, h => ⟨y, rfl, .inr ⟨rfl, by simpa [nth] using h.symm⟩⟩
  | n + 2, c, h => by simp [nth] at h
theorem cond_part {a x y : D} {c : D} {b : Bool} {q : Nat} (hc : (bif b then nth [a, x] q else none) = some c) : ∃ c0, (bif b then nth [a, y] q else none) = some c0 ∧ (c0 = c ∨ (c0 = y ∧ c = x)) := by
  cases b
  · cases hc
  · exact nth_part q c hc
theorem lentM_part {a x y : D} {id : Id} {c : D} (hc : lentM [a, x] id = some c) : ∃ c0, lentM [a, y] id = some c0 ∧ (c0 = c ∨ (c0 = y ∧ c = x)) := by
  unfold lentM at hc ⊢
  exact cond_part hc
/-- A nil slice in a variable, told as a part. -/
theorem Lent.part {w : World} {l0 : Loc} {a : D} (h : Lent w l0 [a, .v (.agg ⟨[.slice none 0 0]⟩)]) : Lent w l0 [a, .agg [.v (.slice none 0 0)]] := by
  have key : ∀ id c, lentM [a, .agg [.v (.slice none 0 0)]] id = some c → ∃ c0, lentM [a, .v (.agg ⟨[.slice none 0 0]⟩)] id = some c0 ∧ ((c0 = c) ∨ (c0 = .v (.agg ⟨[.slice none 0 0]⟩) ∧ c = .agg [.v (.slice none 0 0)])) :=
    fun id c hc => lentM_part hc
  refine ⟨h.dom, fun id c hc => ?_, h.range, fun id id' c c' b n n' h1 h2 h3 h4 => ?_⟩
  · obtain ⟨c0, g1, g2⟩ := key id c hc
    obtain ⟨l, xs, q1, q2, q3⟩ := h.mem id c0 g1
    rcases g2 with rfl | ⟨rfl, rfl⟩
    · exact ⟨l, xs, q1, q2, q3⟩
    · refine ⟨l, xs, q1, ?_, q3⟩
      simp only [Rep] at q2
      obtain ⟨q2, _⟩ := q2
      simp only [Value.agg.injEq] at q2
      cases q2
      simp only [Rep, RepL]
      exact ⟨_, rfl, ⟨_, _, rfl, ⟨rfl, rfl⟩, rfl⟩, rfl⟩
  · obtain ⟨c0, g1, _⟩ := key id c h1
    obtain ⟨c0', g1', _⟩ := key id' c' h2
    exact h.inj id id' _ _ b n n' g1 g1' h3 h4
theorem SatM.part {P : Program} {g : FuncId} {args : List D} {a res : D} {ms' : List (Option D)} {news : List D} (h : SatM P g args [a, .agg [.v (.slice none 0 0)]] res ms' news) : SatM P g args [a, .v (.agg ⟨[.slice none 0 0]⟩)] res ms' news :=
  ⟨h.1, fun w vs l0 hgl hl hr => h.2 w vs l0 hgl hl.part hr⟩
end Go.V
namespace Go.Proofs.YtdbhfobnmlogeaaDoor
open Go.V
end Go.Proofs.YtdbhfobnmlogeaaDoor
/- Contracts: numbers for roofs that drip alike, both sides, continued. -/
set_option linter.unusedVariables false
set_option linter.unusedSimpArgs false
namespace Go.V
end Go.V
namespace Go.Proofs.YtdbhfobnmlogeaaDoor
open Go.V
end Go.Proofs.YtdbhfobnmlogeaaDoor
/- Contracts: numbers for roofs that drip alike; the cell upon which rain has to fall; both sides, and the laws. -/
set_option linter.unusedVariables false
set_option linter.unusedSimpArgs false
namespace Go.V
end Go.V
namespace Go.Proofs.YtdbhfobnmlogeaaDoor
open Go.V
end Go.Proofs.YtdbhfobnmlogeaaDoor
/- Plain words: years: visits that are needed, each of them; what has to be replaced; tiles that are too old. -/
set_option linter.unusedVariables false
set_option linter.unusedSimpArgs false
namespace Go.V
theorem grid_mem {w h : Nat} {q : Pl} : q ∈ gridP w h ↔ q.1 < h ∧ q.2 < w := by
  unfold gridP rowP
  simp only [List.mem_flatMap, List.mem_range, List.mem_map]
  constructor
  · rintro ⟨x, hx, j, hj, rfl⟩; exact ⟨hx, hj⟩
  · rintro ⟨h1, h2⟩; exact ⟨q.1, h1, q.2, h2, rfl⟩
end Go.V
