import Derived.Test.YtdbhfobnmlogeaaDoorP3
import Derived.Test.YtdbhfobnmlogeaaDoorP2
set_option linter.unusedVariables false
set_option linter.unusedSimpArgs false
/- Contracts: a source of choices out of bytes; valid roofs, ages and rain that are drawn from it. -/
set_option linter.unusedVariables false
set_option linter.unusedSimpArgs false
namespace Go.V
/- Words for the walks of this text: their default arguments are tried where they are used. -/
theorem go_E12 {P Q : Prop} (k : Q) (h : P := by first | exact Nat.le_of_ble_eq_true rfl | exact rfl | decide | omega | (simp [splice]; done) | (constructor <;> omega) | (simp [splice]; omega)) : P ∧ Q := ⟨h, k⟩
theorem lk_E12 {α : Type} {o : Option α} {K : α → Prop} {x : α} (k : K x) (h : o = some x := by first | exact u8A (by omega) | exact u8A' (by omega) | exact gridN (by omega) (by omega) | exact roofN (by omega) (by omega) | exact placeA (by omega) | exact placeB (by omega) | exact placeA' (by omega) | exact placeB' (by omega)) : optK o K := optK_of h k
theorem sm_E12 {P : Program} {g : FuncId} {args args' ms ms0 : List D} {res : D} {ms' : List (Option D)} {news : List D} (h : SatM P g args ms res ms' news) (e : args' = args := by repeat (first | rfl | exact vfull (by first | (simp [splice]; done) | (simp [splice]; omega)) | exact rfull (by first | (simp [splice]; done) | (simp [splice]; omega)) | exact vplace (by simp; done) (by omega) | exact vsplice (by simp) (by simp) | refine ceq ?_ ?_ | refine Eq.trans (vsplice (by first | (simp; done) | (simp; omega)) (by first | (simp; done) | (simp; omega))) ?_)) (e2 : ms0 = ms := by repeat (first | rfl | exact vfull (by first | (simp [splice]; done) | (simp [splice]; omega)) | exact rfull (by first | (simp [splice]; done) | (simp [splice]; omega)) | exact vplace (by simp; done) (by omega) | exact vsplice (by simp) (by simp) | refine ceq ?_ ?_ | refine Eq.trans (vsplice (by first | (simp; done) | (simp; omega)) (by first | (simp; done) | (simp; omega))) ?_)) : SatM P g args' ms0 res ms' news := SatM.of_eq h e e2
end Go.V
namespace Go.V
/-- Bytes. -/
@[irreducible] def u8C (xs : List Int) : List Value := xs.map (Value.int .u8)
theorem u8C_def (xs : List Int) : u8C xs = xs.map (Value.int .u8) := by unfold u8C; rfl
@[simp] theorem u8C_len (xs : List Int) : (u8C xs).length = xs.length := by simp [u8C_def]
def u8D (m : Bool) (xs : List Int) : D := .row m 1 (.v (.agg ⟨u8C xs⟩)) xs.length
def Bytes (xs : List Int) : Prop := ∀ i, i < xs.length → 0 ≤ ix xs i ∧ ix xs i ≤ 255
theorem u8N {xs : List Int} {i o : Nat} (ho : o = i) (h : i < xs.length) : nth (u8C xs) o = some (.int .u8 (ix xs i)) := by
  subst ho
  rw [nth_eq, u8C_def, List.getElem?_map]
  unfold ix
  rw [List.getD_eq_getElem?_getD]
  simp [h]
theorem u8A {xs : List Int} {i : Nat} (h : i < xs.length) : nth (u8C xs) (0 + (i : Int).toNat * 1) = some (.int .u8 (ix xs i)) := u8N (by simp) h
theorem u8A' {xs : List Int} {i : Nat} (h : i < xs.length) : nth (u8C xs) ((i : Int).toNat * 1) = some (.int .u8 (ix xs i)) := u8N (by simp) h
/-- The state of a source: how many were read, a number. -/
abbrev Sc := Nat × Int
def srcD (xs : List Int) (σ : Sc) : D := .agg [u8D false xs, .v (.int .i64 σ.1), .v (.int .u64 σ.2)]
def nxB (xs : List Int) (σ : Sc) : Int := if σ.1 < xs.length then ix xs σ.1 else 0
def nxS (xs : List Int) (σ : Sc) : Int := IntKind.u64.wrap (IntKind.u64.wrap (IntKind.u64.wrap (σ.2 * 6364136223846793005) + IntKind.u64.wrap (nxB xs σ)) + 1442695040888963407)
def andU (x : Int) : Int := IntKind.u64.wrap (BitVec.ofInt IntKind.u64.bits (x.fdiv (2 ^ (min 40 IntKind.u64.bits))) &&& BitVec.ofInt IntKind.u64.bits 255).toNat
def nxV (xs : List Int) (σ : Sc) : Int := if σ.1 + 1 ≤ xs.length then nxB xs σ else IntKind.i64.wrap (andU (nxS xs σ))
def nxt (xs : List Int) (σ : Sc) : Sc := (σ.1 + 1, nxS xs σ)
theorem andU_in (x : Int) : 0 ≤ andU x ∧ andU x ≤ 255 := by
  unfold andU
  generalize BitVec.ofInt IntKind.u64.bits (x.fdiv (2 ^ (min 40 IntKind.u64.bits))) = b
  have h : (b &&& BitVec.ofInt IntKind.u64.bits 255).toNat ≤ 255 := by
    rw [BitVec.toNat_and]
    have : (BitVec.ofInt IntKind.u64.bits 255).toNat = 255 := by decide
    rw [this]
    exact Nat.and_le_right
  generalize (b &&& BitVec.ofInt IntKind.u64.bits 255).toNat = n at h
  rw [wu64 (by omega) (by omega)]
  omega
theorem nxV_in {xs : List Int} (h : Bytes xs) (σ : Sc) : 0 ≤ nxV xs σ ∧ nxV xs σ ≤ 255 := by
  unfold nxV nxB
  have h2 := andU_in (nxS xs σ)
  split
  · rename_i h1
    rw [if_pos (by omega)]
    exact h _ (by omega)
  · rw [w64 (by omega) (by omega)]; exact h2
/-- One choice among n. -/
def pkV (xs : List Int) (n : Int) (σ : Sc) : Int := if n ≤ 1 then 0 else (nxV xs σ).tmod n
def pkS (xs : List Int) (n : Int) (σ : Sc) : Sc := if n ≤ 1 then σ else nxt xs σ
theorem pkV_in {xs : List Int} (h : Bytes xs) {n : Int} (hn : 1 ≤ n) (σ : Sc) : 0 ≤ pkV xs n σ ∧ pkV xs n σ < n := by
  unfold pkV
  have := nxV_in h σ
  split
  · omega
  · have e : (nxV xs σ).tmod n = nxV xs σ % n := Int.tmod_eq_emod_of_nonneg this.1
    rw [e]
    exact ⟨Int.emod_nonneg _ (by omega), Int.emod_lt_of_pos _ (by omega)⟩
theorem pkS_le (xs : List Int) (n : Int) (σ : Sc) : (pkS xs n σ).1 ≤ σ.1 + 1 := by
  unfold pkS nxt; split
  · omega
  · exact Nat.le_refl _
end Go.V
namespace Go.Proofs.YtdbhfobnmlogeaaDoor
open Go.V
theorem l00From_satM (xs : List Int) : SatM Tryd.prog 96 [u8D false xs] [] (.ptr (0, 0, 0) 0) [] [srcD xs (0, 0)] := by
  refine satM_of_wp hMix tOk Tryd.func96 rfl rfl Tryd.ntmps96 rfl rfl Tryd.results96 (by kernel_rfl) ?_
  conv => whnf
  repeat (first | (refine go_E12 ?_; conv => whnf) | (refine lk_E12 ?_; conv => whnf))
  refine ⟨[(5, 0, 0)], _, rfl, rfl, rfl, ?_, ?_, rfl⟩
  · rfl
  ((repeat' (first | exact trivial | apply And.intro)) <;> (refine ⟨_, rfl, ?_⟩; first | rfl | (rfl)))
theorem next_satM (xs : List Int) (hx : Bytes xs) (hl : xs.length ≤ 3000) (σ : Sc) (hσ : σ.1 ≤ 1000000) : SatM Tryd.prog 142 [.ptr (lentId 0) 0] [srcD xs σ] (.v (.int .i64 (nxV xs σ))) [some (srcD xs (nxt xs σ))] [] := by
  have e1 : IntKind.i64.wrap ((σ.1 : Int) + 1) = ((σ.1 + 1 : Nat) : Int) := by rw [w64 (by omega) (by omega)]; omega
  refine satM_of_wp hMix tOk Tryd.func142 rfl rfl Tryd.ntmps142 rfl rfl Tryd.results142 (by kernel_rfl) ?_
  conv => whnf
  repeat (first | (refine go_E12 ?_; conv => whnf) | (refine lk_E12 ?_; conv => whnf))
  cases h1 : decide ((σ.1 : Int) < (xs.length : Int))
  · have h1' : ¬ σ.1 < xs.length := by simpa using h1
    have hb : nxB xs σ = 0 := by unfold nxB; rw [if_neg h1']
    conv => whnf
    repeat (first | (refine go_E12 ?_; conv => whnf) | (refine lk_E12 ?_; conv => whnf))
    rw [e1]
    rw [show decide (((σ.1 + 1 : Nat) : Int) ≤ (xs.length : Int)) = false by simp; omega]
    conv => whnf
    repeat (first | (refine go_E12 ?_; conv => whnf) | (refine lk_E12 ?_; conv => whnf))
    have ev : nxV xs σ = IntKind.i64.wrap (andU (nxS xs σ)) := by unfold nxV; rw [if_neg (by omega)]
    have es : nxS xs σ = IntKind.u64.wrap (IntKind.u64.wrap (IntKind.u64.wrap (σ.2 * 6364136223846793005) + IntKind.u64.wrap 0) + 1442695040888963407) := by unfold nxS; rw [hb]
    rw [ev]
    unfold nxt
    rw [es]
    refine ⟨[], _, rfl, rfl, rfl, ?_, ?_, rfl⟩
    · rfl
    ((repeat' (first | exact trivial | apply And.intro)) <;> (refine ⟨_, rfl, ?_⟩; first | rfl | (rfl)))
  have h1' : σ.1 < xs.length := by simpa using h1
  have hb : nxB xs σ = ix xs σ.1 := by unfold nxB; rw [if_pos h1']
  have hbx := hx _ h1'
  conv => whnf
  repeat (first | (refine go_E12 ?_; conv => whnf) | (refine lk_E12 ?_; conv => whnf))
  rw [e1, show IntKind.i64.wrap (ix xs σ.1) = ix xs σ.1 from w64 (by omega) (by omega)]
  rw [show decide (((σ.1 + 1 : Nat) : Int) ≤ (xs.length : Int)) = true by simp; omega]
  conv => whnf
  repeat (first | (refine go_E12 ?_; conv => whnf) | (refine lk_E12 ?_; conv => whnf))
  have ev : nxV xs σ = ix xs σ.1 := by unfold nxV; rw [if_pos (by omega), hb]
  have es : nxS xs σ = IntKind.u64.wrap (IntKind.u64.wrap (IntKind.u64.wrap (σ.2 * 6364136223846793005) + IntKind.u64.wrap (ix xs σ.1)) + 1442695040888963407) := by unfold nxS; rw [hb]
  rw [ev]
  unfold nxt
  rw [es]
  refine ⟨[], _, rfl, rfl, rfl, ?_, ?_, rfl⟩
  · rfl
  ((repeat' (first | exact trivial | apply And.intro)) <;> (refine ⟨_, rfl, ?_⟩; first | rfl | (rfl)))
theorem pick_satM (xs : List Int) (hx : Bytes xs) (hl : xs.length ≤ 3000) (n : Int) (hn : n ≤ 200) (σ : Sc) (hσ : σ.1 ≤ 1000000) : SatM Tryd.prog 97 [.ptr (lentId 0) 0, .v (.int .i64 n)] [srcD xs σ] (.v (.int .i64 (pkV xs n σ))) [some (srcD xs (pkS xs n σ))] [] := by
  refine satM_of_wp hMix tOk Tryd.func97 rfl rfl Tryd.ntmps97 rfl rfl Tryd.results97 (by kernel_rfl) ?_
  conv => whnf
  repeat (first | (refine go_E12 ?_; conv => whnf) | (refine lk_E12 ?_; conv => whnf))
  cases h1 : decide (n ≤ 1)
  case true =>
    have h1' : n ≤ 1 := by simpa using h1
    rw [show pkV xs n σ = 0 by unfold pkV; rw [if_pos h1'], show pkS xs n σ = σ by unfold pkS; rw [if_pos h1']]
    conv => whnf
    repeat (first | (refine go_E12 ?_; conv => whnf) | (refine lk_E12 ?_; conv => whnf))
    refine ⟨[], _, rfl, rfl, rfl, ?_, ?_, rfl⟩
    · rfl
    ((repeat' (first | exact trivial | apply And.intro)) <;> (refine ⟨_, rfl, ?_⟩; first | rfl | (rfl)))
  have h1' : ¬ n ≤ 1 := by simpa using h1
  have hne : n ≠ 0 := by omega
  rw [show pkV xs n σ = (nxV xs σ).tmod n by unfold pkV; rw [if_neg h1'], show pkS xs n σ = nxt xs σ by unfold pkS; rw [if_neg h1']]
  conv => whnf
  repeat (first | (refine go_E12 ?_; conv => whnf) | (refine lk_E12 ?_; conv => whnf))
  first | refine ⟨[(lentId 0)], _, _, _, _, _, _, _, _, rfl, rfl, rfl, rfl, (sm_E12 (next_satM xs hx hl σ hσ)), rfl, rfl, rfl, rfl, ?_⟩ | refine .inr ⟨[(lentId 0)], _, _, _, _, _, _, _, _, rfl, rfl, rfl, rfl, (sm_E12 (next_satM xs hx hl σ hσ)), rfl, rfl, rfl, rfl, ?_⟩ | refine ⟨[(lentId 0)], _, _, _, _, _, rfl, rfl, rfl, rfl, (sm_E12 (next_satM xs hx hl σ hσ)), rfl, rfl, ?_⟩
  conv => whnf
  repeat (first | (refine go_E12 ?_; conv => whnf) | (refine lk_E12 ?_; conv => whnf))
  rw [show decide (n > 200) = false by simp; omega]
  conv => whnf
  repeat (first | (refine go_E12 ?_; conv => whnf) | (refine lk_E12 ?_; conv => whnf))
  refine ⟨[], _, rfl, rfl, rfl, ?_, ?_, rfl⟩
  · rfl
  ((repeat' (first | exact trivial | apply And.intro)) <;> (refine ⟨_, rfl, ?_⟩; first | rfl | (rfl)))
theorem one_satM (xs : List Int) (hx : Bytes xs) (hl : xs.length ≤ 3000) (n : Int) (hn : n ≤ 200) (σ : Sc) (hσ : σ.1 ≤ 1000000) : SatM Tryd.prog 141 [.ptr (lentId 0) 0, .v (.int .i64 n)] [srcD xs σ] (.v (.bool (pkV xs n σ == 0))) [some (srcD xs (pkS xs n σ))] [] := by
  refine satM_of_wp hMix tOk Tryd.func141 rfl rfl Tryd.ntmps141 rfl rfl Tryd.results141 (by kernel_rfl) ?_
  conv => whnf
  repeat (first | (refine go_E12 ?_; conv => whnf) | (refine lk_E12 ?_; conv => whnf))
  first | refine ⟨[(lentId 0)], _, _, _, _, _, _, _, _, rfl, rfl, rfl, rfl, (sm_E12 (pick_satM xs hx hl n hn σ hσ)), rfl, rfl, rfl, rfl, ?_⟩ | refine .inr ⟨[(lentId 0)], _, _, _, _, _, _, _, _, rfl, rfl, rfl, rfl, (sm_E12 (pick_satM xs hx hl n hn σ hσ)), rfl, rfl, rfl, rfl, ?_⟩ | refine ⟨[(lentId 0)], _, _, _, _, _, rfl, rfl, rfl, rfl, (sm_E12 (pick_satM xs hx hl n hn σ hσ)), rfl, rfl, ?_⟩
  conv => whnf
  repeat (first | (refine go_E12 ?_; conv => whnf) | (refine lk_E12 ?_; conv => whnf))
  refine ⟨[], _, rfl, rfl, rfl, ?_, ?_, rfl⟩
  · rfl
  ((repeat' (first | exact trivial | apply And.intro)) <;> (refine ⟨_, rfl, ?_⟩; first | rfl | (rfl)))
end Go.Proofs.YtdbhfobnmlogeaaDoor
/- Contracts: valid roofs, ages and rain that are drawn from bytes. -/
set_option linter.unusedVariables false
set_option linter.unusedSimpArgs false
namespace Go.V
/- Words for the walks of this text: their default arguments are tried where they are used. -/
theorem go_E13 {P Q : Prop} (k : Q) (h : P := by first | exact Nat.le_of_ble_eq_true rfl | exact trivial | exact rfl | decide | omega | (simp [splice]; done) | (constructor <;> omega) | (simp [splice]; omega)) : P ∧ Q := ⟨h, k⟩
theorem lk_E13 {α : Type} {o : Option α} {K : α → Prop} {x : α} (k : K x) (h : o = some x := by first | exact gridN (by omega) (by omega) | exact roofN (by omega) (by omega) | exact placeA (by omega) | exact placeB (by omega) | exact placeA' (by omega) | exact placeB' (by omega)) : optK o K := optK_of h k
theorem sc_E13 {P : Program} {g : FuncId} {args args' : List D} {res : D} (h : Sat P g args res) (e : args' = args := by repeat (first | rfl | exact vfull (by first | (simp [splice]; done) | (simp [splice]; omega)) | exact rfull (by first | (simp [splice]; done) | (simp [splice]; omega)) | exact vroof0 (by simp) | exact vrefsplice (by simp) | exact vplace (by simp; done) (by omega) | exact vsplice (by simp) (by simp) | refine ceq ?_ ?_ | refine Eq.trans (vsplice (by first | (simp; done) | (simp; omega)) (by first | (simp; done) | (simp; omega))) ?_)) : Sat P g args' res := Sat.of_eq h e
theorem sm_E13 {P : Program} {g : FuncId} {args args' ms ms0 : List D} {res : D} {ms' : List (Option D)} {news : List D} (h : SatM P g args ms res ms' news) (e : args' = args := by repeat (first | rfl | exact vfull (by first | (simp [splice]; done) | (simp [splice]; omega)) | exact rfull (by first | (simp [splice]; done) | (simp [splice]; omega)) | exact vroof0 (by simp) | exact vrefsplice (by simp) | exact vplace (by simp; done) (by omega) | exact vsplice (by simp) (by simp) | refine ceq ?_ ?_ | refine Eq.trans (vsplice (by first | (simp; done) | (simp; omega)) (by first | (simp; done) | (simp; omega))) ?_)) (e2 : ms0 = ms := by repeat (first | rfl | exact vfull (by first | (simp [splice]; done) | (simp [splice]; omega)) | exact rfull (by first | (simp [splice]; done) | (simp [splice]; omega)) | exact vroof0 (by simp) | exact vrefsplice (by simp) | exact vplace (by simp; done) (by omega) | exact vsplice (by simp) (by simp) | refine ceq ?_ ?_ | refine Eq.trans (vsplice (by first | (simp; done) | (simp; omega)) (by first | (simp; done) | (simp; omega))) ?_)) : SatM P g args' ms0 res ms' news := SatM.of_eq h e e2
theorem hold_E13 {P : Prop} (h : P := by (repeat' (first | exact trivial | apply And.intro)) <;> (first | rfl | exact succ8 (by omega) | exact succ64 (by omega) | exact CapOk.fn (by assumption) _ _ | exact vintS (by omega) | exact vintS (by rw [w64 (by omega) (by omega)]; omega) | exact vintS (by rw [w8 (by omega) (by omega)]; omega) | exact vslcS (by omega) | exact vslcS (by simp))) : P := h
theorem okt_E13 {P : Prop} (h : P := by first | omega | (dsimp only; omega) | ((repeat' apply And.intro) <;> omega) | (dsimp only; (repeat' apply And.intro) <;> omega) | trivial) : P := h
end Go.V
namespace Go.V
theorem vrefsplice {xs ys : List Value} (h : xs.length = ys.length) : D.ref false (.v (.agg ⟨splice xs 0 ys⟩)) 0 = .ref false (.v (.agg ⟨ys⟩)) 0 := by rw [splice_all h]
theorem vroof0 {w h s : Int} {zs : List Value} (hz : zs.length = 67) : D.ref false (.v (.agg ⟨splice zs 0 (.int .i8 w :: .int .i8 h :: .int .u8 s :: List.replicate 64 (.int .u8 0))⟩)) 0 = .ref false (roofD ⟨w, h, s, fun _ _ => 0⟩) 0 := by
  rw [splice_all (by simpa using hz)]
  unfold roofD roofC
  rw [grid_zero]
theorem vroof0S {w h s : Int} {zs : List Value} (hz : zs.length = 67) : some (D.v (.agg ⟨splice zs 0 (.int .i8 w :: .int .i8 h :: .int .u8 s :: List.replicate 64 (.int .u8 0))⟩)) = some (roofD ⟨w, h, s, fun _ _ => 0⟩) := by
  rw [splice_all (by simpa using hz)]
  unfold roofD roofC
  rw [grid_zero]
def s0 : Sc := (0, 0)
def dr0 (xs : List Int) : Sc × Int := (pkS xs 5 s0, pkV xs 5 s0)
def dr1 (xs : List Int) : Sc × Int := (pkS xs 5 (dr0 xs).1, pkV xs 5 (dr0 xs).1)
def dr2 (xs : List Int) : Sc × Int := (pkS xs 2 (dr1 xs).1, pkV xs 2 (dr1 xs).1)
def dr3 (xs : List Int) : Sc × Int := (pkS xs 5 (dr2 xs).1, pkV xs 5 (dr2 xs).1)
def drR0 (xs : List Int) : Roof := ⟨1 + (dr0 xs).2, 1 + (dr1 xs).2, (dr2 xs).2, fun _ _ => 0⟩
def drFew (xs : List Int) : Int := 2 + (dr3 xs).2
def drG (xs : List Int) : List Pl := gridP (drR0 xs).w.toNat (drR0 xs).h.toNat
def dwQ (xs : List Int) (ps : List Pl) (few : Int) (r : Roof) (σ : Sc) : Nat → Roof × Sc
  | 0 => (r, σ)
  | i + 1 =>
    if pkV xs few (dwQ xs ps few r σ i).2 = 0 then
      (putR (dwQ xs ps few r σ i).1 (nthP ps i).1 (nthP ps i).2 (pkV xs 4 (pkS xs few (dwQ xs ps few r σ i).2)), pkS xs 4 (pkS xs few (dwQ xs ps few r σ i).2))
    else ((dwQ xs ps few r σ i).1, pkS xs few (dwQ xs ps few r σ i).2)
theorem dwQ_no {xs : List Int} {ps : List Pl} {few : Int} {r : Roof} {σ : Sc} {i : Nat} (h : ¬ pkV xs few (dwQ xs ps few r σ i).2 = 0) : dwQ xs ps few r σ (i + 1) = ((dwQ xs ps few r σ i).1, pkS xs few (dwQ xs ps few r σ i).2) := by simp only [dwQ, if_neg h]
theorem dwQ_yes {xs : List Int} {ps : List Pl} {few : Int} {r : Roof} {σ : Sc} {i : Nat} (h : pkV xs few (dwQ xs ps few r σ i).2 = 0) : dwQ xs ps few r σ (i + 1) = (putR (dwQ xs ps few r σ i).1 (nthP ps i).1 (nthP ps i).2 (pkV xs 4 (pkS xs few (dwQ xs ps few r σ i).2)), pkS xs 4 (pkS xs few (dwQ xs ps few r σ i).2)) := by simp only [dwQ, if_pos h]
/-- The roof that is drawn. -/
def dwR (xs : List Int) : Roof × Sc := dwQ xs (drG xs) (drFew xs) (drR0 xs) (dr3 xs).1 (drG xs).length
theorem drP_in {xs : List Int} (h : Bytes xs) : (0 ≤ (dr0 xs).2 ∧ (dr0 xs).2 < 5) ∧ (0 ≤ (dr1 xs).2 ∧ (dr1 xs).2 < 5) ∧ (0 ≤ (dr2 xs).2 ∧ (dr2 xs).2 < 2) ∧ (0 ≤ (dr3 xs).2 ∧ (dr3 xs).2 < 5) :=
  ⟨pkV_in h (n := 5) (by omega) s0, pkV_in h (n := 5) (by omega) (dr0 xs).1, pkV_in h (n := 2) (by omega) (dr1 xs).1, pkV_in h (n := 5) (by omega) (dr2 xs).1⟩
theorem drP_at (xs : List Int) : (dr0 xs).1.1 ≤ 1 ∧ (dr1 xs).1.1 ≤ 2 ∧ (dr2 xs).1.1 ≤ 3 ∧ (dr3 xs).1.1 ≤ 4 := by
  have h0 : (dr0 xs).1.1 ≤ s0.1 + 1 := pkS_le _ _ _
  have h1 : (dr1 xs).1.1 ≤ (dr0 xs).1.1 + 1 := pkS_le _ _ _
  have h2 : (dr2 xs).1.1 ≤ (dr1 xs).1.1 + 1 := pkS_le _ _ _
  have h3 : (dr3 xs).1.1 ≤ (dr2 xs).1.1 + 1 := pkS_le _ _ _
  have : s0.1 = 0 := rfl
  omega
theorem dwQ_at (xs : List Int) (ps : List Pl) (few : Int) (r : Roof) (σ : Sc) : ∀ i, (dwQ xs ps few r σ i).2.1 ≤ σ.1 + 2 * i
  | 0 => by simp [dwQ]
  | i + 1 => by
    have ih := dwQ_at xs ps few r σ i
    have h1 := pkS_le xs few (dwQ xs ps few r σ i).2
    have h2 := pkS_le xs 4 (pkS xs few (dwQ xs ps few r σ i).2)
    simp only [dwQ]
    split <;> dsimp only <;> omega
theorem cell_put {r : Roof} (h : okR r = true) {c k : Nat} (hc : (c : Int) < r.h) (hk : (k : Int) < r.w) {x : Int} (hx : 0 ≤ x ∧ x ≤ 3) : okR (putR r c k x) = true := by
  rw [okR_def] at h ⊢
  rw [Bool.and_eq_true] at h ⊢
  refine ⟨h.1, all8_true fun c' hc' k' hk' => ?_⟩
  have := all8_iff.1 h.2 c' hc' k' hk'
  unfold cellOk putR putG at *
  dsimp only
  by_cases hq : c' = c ∧ k' = k
  · obtain ⟨rfl, rfl⟩ := hq
    simp only [and_self, if_true]
    simp; omega
  · simp only [hq, if_false]; exact this
theorem dwQ_dims (xs : List Int) (ps : List Pl) (few : Int) (r : Roof) (σ : Sc) : ∀ i, (dwQ xs ps few r σ i).1.w = r.w ∧ (dwQ xs ps few r σ i).1.h = r.h ∧ (dwQ xs ps few r σ i).1.s = r.s
  | 0 => ⟨rfl, rfl, rfl⟩
  | i + 1 => by
    have ih := dwQ_dims xs ps few r σ i
    simp only [dwQ]
    split
    · exact ih
    · exact ih
theorem dwQ_ok {xs : List Int} (h : Bytes xs) {few : Int} {r : Roof} {σ : Sc} (hr : okR r = true) (hi : r.In) : ∀ i, i ≤ (gridP r.w.toNat r.h.toNat).length → okR (dwQ xs (gridP r.w.toNat r.h.toNat) few r σ i).1 = true ∧ (dwQ xs (gridP r.w.toNat r.h.toNat) few r σ i).1.In
  | 0, _ => ⟨hr, hi⟩
  | i + 1, hl => by
    obtain ⟨h1, h2⟩ := dwQ_ok h hr hi (few := few) (σ := σ) i (by omega)
    obtain ⟨d1, d2, d3⟩ := dwQ_dims xs (gridP r.w.toNat r.h.toNat) few r σ i
    have hp := pkV_in h (n := 4) (by omega) (pkS xs few (dwQ xs (gridP r.w.toNat r.h.toNat) few r σ i).2)
    have hm := grid_mem.1 (nthP_mem (show i < (gridP r.w.toNat r.h.toNat).length by omega))
    simp only [dwQ]
    split
    · exact ⟨cell_put h1 (by rw [d2]; omega) (by rw [d1]; omega) (by omega), putR_in h2 (by omega)⟩
    · exact ⟨h1, h2⟩
theorem drR0_ok {xs : List Int} (h : Bytes xs) : okR (drR0 xs) = true ∧ (drR0 xs).In := by
  obtain ⟨h0, h1, h2, _⟩ := drP_in h
  constructor
  · rw [okR_def, Bool.and_eq_true]
    refine ⟨?_, all8_true fun c _ k _ => ?_⟩
    · unfold drR0; simp; omega
    · unfold cellOk drR0; simp
  · exact ⟨by unfold drR0; dsimp only; omega, by unfold drR0; dsimp only; omega, by unfold drR0; dsimp only; omega, fun _ _ => by unfold drR0; dsimp only; omega⟩
theorem dwR_ok {xs : List Int} (h : Bytes xs) : okR (dwR xs).1 = true ∧ (dwR xs).1.In := by
  obtain ⟨h1, h2⟩ := drR0_ok h
  exact dwQ_ok h h1 h2 _ (Nat.le_refl _)
end Go.V
namespace Go.Proofs.YtdbhfobnmlogeaaDoor
open Go.V
theorem l01Drawn_satM (xs : List Int) (hx : Bytes xs) (hl : xs.length ≤ 3000) : SatM Tryd.prog 95 [.ptr (lentId 0) 0] [srcD xs s0] (roofD (dwR xs).1) [some (srcD xs (dwR xs).2)] [] := by
  obtain ⟨p0, p1, p2, p3⟩ := drP_in hx
  obtain ⟨q0, q1, q2, q3⟩ := drP_at xs
  obtain ⟨hok0, hin0⟩ := drR0_ok hx
  have hb0 := okR_bounds hok0
  refine satM_of_wp hMix tOk Tryd.func95 rfl rfl Tryd.ntmps95 rfl rfl Tryd.results95 (by kernel_rfl) ?_
  conv => whnf
  repeat (first | (refine go_E13 ?_; conv => whnf) | (refine lk_E13 ?_; conv => whnf))
  first | refine ⟨[(lentId 0)], _, _, _, _, _, _, _, _, rfl, rfl, rfl, rfl, (sm_E13 (pick_satM xs hx hl 5 (by omega) s0 (by show 0 ≤ 1000000; omega))), rfl, rfl, rfl, rfl, ?_⟩ | refine .inr ⟨[(lentId 0)], _, _, _, _, _, _, _, _, rfl, rfl, rfl, rfl, (sm_E13 (pick_satM xs hx hl 5 (by omega) s0 (by show 0 ≤ 1000000; omega))), rfl, rfl, rfl, rfl, ?_⟩ | refine ⟨[(lentId 0)], _, _, _, _, _, rfl, rfl, rfl, rfl, (sm_E13 (pick_satM xs hx hl 5 (by omega) s0 (by show 0 ≤ 1000000; omega))), rfl, rfl, ?_⟩
  conv => whnf
  repeat (first | (refine go_E13 ?_; conv => whnf) | (refine lk_E13 ?_; conv => whnf))
  first | refine ⟨[(lentId 0)], _, _, _, _, _, _, _, _, rfl, rfl, rfl, rfl, (sm_E13 (pick_satM xs hx hl 5 (by omega) (dr0 xs).1 (by omega))), rfl, rfl, rfl, rfl, ?_⟩ | refine .inr ⟨[(lentId 0)], _, _, _, _, _, _, _, _, rfl, rfl, rfl, rfl, (sm_E13 (pick_satM xs hx hl 5 (by omega) (dr0 xs).1 (by omega))), rfl, rfl, rfl, rfl, ?_⟩ | refine ⟨[(lentId 0)], _, _, _, _, _, rfl, rfl, rfl, rfl, (sm_E13 (pick_satM xs hx hl 5 (by omega) (dr0 xs).1 (by omega))), rfl, rfl, ?_⟩
  conv => whnf
  repeat (first | (refine go_E13 ?_; conv => whnf) | (refine lk_E13 ?_; conv => whnf))
  first | refine ⟨[(lentId 0)], _, _, _, _, _, _, _, _, rfl, rfl, rfl, rfl, (sm_E13 (pick_satM xs hx hl 2 (by omega) (dr1 xs).1 (by omega))), rfl, rfl, rfl, rfl, ?_⟩ | refine .inr ⟨[(lentId 0)], _, _, _, _, _, _, _, _, rfl, rfl, rfl, rfl, (sm_E13 (pick_satM xs hx hl 2 (by omega) (dr1 xs).1 (by omega))), rfl, rfl, rfl, rfl, ?_⟩ | refine ⟨[(lentId 0)], _, _, _, _, _, rfl, rfl, rfl, rfl, (sm_E13 (pick_satM xs hx hl 2 (by omega) (dr1 xs).1 (by omega))), rfl, rfl, ?_⟩
  conv => whnf
  repeat (first | (refine go_E13 ?_; conv => whnf) | (refine lk_E13 ?_; conv => whnf))
  rw [show IntKind.i8.wrap (IntKind.i64.wrap (1 + pkV xs 5 s0)) = (drR0 xs).w by rw [show pkV xs 5 s0 = (dr0 xs).2 from rfl, w64 (by omega) (by omega), w8 (by omega) (by omega)]; rfl,
    show IntKind.i8.wrap (IntKind.i64.wrap (1 + pkV xs 5 (dr0 xs).1)) = (drR0 xs).h by rw [show pkV xs 5 (dr0 xs).1 = (dr1 xs).2 from rfl, w64 (by omega) (by omega), w8 (by omega) (by omega)]; rfl,
    show IntKind.u8.wrap (pkV xs 2 (dr1 xs).1) = (drR0 xs).s by rw [show pkV xs 2 (dr1 xs).1 = (dr2 xs).2 from rfl, wu8 (by omega) (by omega)]; rfl]
  first | refine ⟨[(lentId 0)], _, _, _, _, _, _, _, _, rfl, rfl, rfl, rfl, (sm_E13 (pick_satM xs hx hl 5 (by omega) (dr2 xs).1 (by omega))), rfl, rfl, rfl, rfl, ?_⟩ | refine .inr ⟨[(lentId 0)], _, _, _, _, _, _, _, _, rfl, rfl, rfl, rfl, (sm_E13 (pick_satM xs hx hl 5 (by omega) (dr2 xs).1 (by omega))), rfl, rfl, rfl, rfl, ?_⟩ | refine ⟨[(lentId 0)], _, _, _, _, _, rfl, rfl, rfl, rfl, (sm_E13 (pick_satM xs hx hl 5 (by omega) (dr2 xs).1 (by omega))), rfl, rfl, ?_⟩
  conv => whnf
  repeat (first | (refine go_E13 ?_; conv => whnf) | (refine lk_E13 ?_; conv => whnf))
  rw [show IntKind.i64.wrap (2 + pkV xs 5 (dr2 xs).1) = drFew xs by rw [show pkV xs 5 (dr2 xs).1 = (dr3 xs).2 from rfl, w64 (by omega) (by omega)]; rfl]
  have hall : Sat Tryd.prog 140 [.ref false (roofD (drR0 xs)) 0] (placesD true (drG xs)) := by unfold drG; rw [← allP_true]; exact l01All_sat (drR0 xs) hin0 hb0
  first | refine ⟨_, _, rfl, sc_E13 (hall), ?_⟩ | refine .inl ⟨_, _, rfl, sc_E13 (hall), ?_⟩
  conv => whnf
  repeat (first | (refine go_E13 ?_; conv => whnf) | (refine lk_E13 ?_; conv => whnf))
  have hdl : (drG xs).length ≤ 72 := (gridP_size hb0).2
  have hdin : AllIn (drG xs) := gridP_in (by omega) (by omega)
  have hfew : 2 ≤ drFew xs ∧ drFew xs ≤ 6 := by unfold drFew; omega
  have hres : dwR xs = dwQ xs (drG xs) (drFew xs) (drR0 xs) (dr3 xs).1 (drG xs).length := rfl
  have hQ := fun i hi => dwQ_ok hx hok0 hin0 (few := drFew xs) (σ := (dr3 xs).1) i hi
  change ∀ i, i ≤ (drG xs).length → okR (dwQ xs (drG xs) (drFew xs) (drR0 xs) (dr3 xs).1 i).1 = true ∧ (dwQ xs (drG xs) (drFew xs) (drR0 xs) (dr3 xs).1 i).1.In at hQ
  have hat := dwQ_at xs (drG xs) (drFew xs) (drR0 xs) (dr3 xs).1
  rw [hres]
  have hno := fun i h => dwQ_no (xs := xs) (ps := drG xs) (few := drFew xs) (r := drR0 xs) (σ := (dr3 xs).1) (i := i) h
  have hyes := fun i h => dwQ_yes (xs := xs) (ps := drG xs) (few := drFew xs) (r := drR0 xs) (σ := (dr3 xs).1) (i := i) h
  have hz : dwQ xs (drG xs) (drFew xs) (drR0 xs) (dr3 xs).1 0 = (drR0 xs, (dr3 xs).1) := rfl
  generalize dwQ xs (drG xs) (drFew xs) (drR0 xs) (dr3 xs).1 = F at *
  generalize drG xs = ps at *
  refine loop_rule (α := Nat) (fun i => [(0, .ptr (lentId 0) 0), (2, .ptr (2, 0, 0) 0), (3, .ptr (3, 0, 0) 0), (4, .v (.int .i64 (drFew xs))), (5, .slc true 2 (22, 0, 0) 0 ps.length), (6, .v (.int .i64 i))]) (fun i => [(lentId 0, srcD xs (F i).2), ((2, 0, 0), .v (.agg ⟨[.int .i8 0, .int .i8 0] ++ List.replicate 65 (.int .u8 0)⟩)), ((3, 0, 0), roofD (F i).1), ((22, 0, 0), .v (.agg ⟨placesC ps⟩))]) (fun i => i ≤ ps.length) (fun i => ps.length - i) (0) ?_ (sim_of (rn := [((2, 0, 0), (2, 0, 0)), ((3, 0, 0), (3, 0, 0)), ((22, 0, 0), (22, 0, 0))]) rfl ?_ ?_) ?_
  · exact okt_E13
  · exact hold_E13
  · ((repeat' (first | exact trivial | apply And.intro)) <;> ((first | refine ⟨_, _, rfl, rfl, ?_⟩ ); first | rfl | (first | (rw [hz]; rfl) | (rw [hz]; exact vroof0S (by simp)))))
  intro i hi
  have hFi := hat i
  have hqo := hQ i hi
  conv => whnf
  repeat (first | (refine go_E13 ?_; conv => whnf) | (refine lk_E13 ?_; conv => whnf))
  cases h : decide ((i : Int) < (ps.length : Int))
  · have hin : i = ps.length := by simp at h; omega
    subst hin
    conv => whnf
    repeat (first | (refine go_E13 ?_; conv => whnf) | (refine lk_E13 ?_; conv => whnf))
    refine ⟨[], _, rfl, rfl, rfl, ?_, ?_, rfl⟩
    · (exact (roofD_copied (r := (F ps.length).1) (by simp)).symm)
    ((repeat' (first | exact trivial | apply And.intro)) <;> (refine ⟨_, rfl, ?_⟩; first | rfl | (rfl)))
  have hin : i < ps.length := by simpa using h
  have hqi := hdin i hin
  conv => whnf
  repeat (first | (refine go_E13 ?_; conv => whnf) | (refine lk_E13 ?_; conv => whnf))
  first | refine ⟨[(lentId 0)], _, _, _, _, _, _, _, _, rfl, rfl, rfl, rfl, (sm_E13 (one_satM xs hx hl (drFew xs) (by omega) (F i).2 (by omega))), rfl, rfl, rfl, rfl, ?_⟩ | refine .inr ⟨[(lentId 0)], _, _, _, _, _, _, _, _, rfl, rfl, rfl, rfl, (sm_E13 (one_satM xs hx hl (drFew xs) (by omega) (F i).2 (by omega))), rfl, rfl, rfl, rfl, ?_⟩ | refine ⟨[(lentId 0)], _, _, _, _, _, rfl, rfl, rfl, rfl, (sm_E13 (one_satM xs hx hl (drFew xs) (by omega) (F i).2 (by omega))), rfl, rfl, ?_⟩
  conv => whnf
  repeat (first | (refine go_E13 ?_; conv => whnf) | (refine lk_E13 ?_; conv => whnf))
  cases h2 : (pkV xs (drFew xs) (F i).2 == 0)
  · have h2' : ¬ pkV xs (drFew xs) (F i).2 = 0 := by simpa using h2
    have e := hno i h2'
    conv => whnf
    repeat (first | (refine go_E13 ?_; conv => whnf) | (refine lk_E13 ?_; conv => whnf))
    refine ⟨i + 1, ?_, ?_, sim_of (rn := [((2, 0, 0), (2, 0, 0)), ((3, 0, 0), (3, 0, 0)), ((22, 0, 0), (22, 0, 0))]) rfl ?_ ?_⟩
    · (dsimp only; omega)
    · exact okt_E13
    · exact hold_E13
    · ((repeat' (first | exact trivial | apply And.intro)) <;> ((first | refine ⟨_, _, rfl, rfl, ?_⟩ ); first | rfl | ((rw [e]; rfl))))
  have h2' : pkV xs (drFew xs) (F i).2 = 0 := by simpa using h2
  have e := hyes i h2'
  have hle := pkS_le xs (drFew xs) (F i).2
  have hp := pkV_in hx (n := 4) (by omega) (pkS xs (drFew xs) (F i).2)
  conv => whnf
  repeat (first | (refine go_E13 ?_; conv => whnf) | (refine lk_E13 ?_; conv => whnf))
  first | refine ⟨[(lentId 0)], _, _, _, _, _, _, _, _, rfl, rfl, rfl, rfl, (sm_E13 (pick_satM xs hx hl 4 (by omega) (pkS xs (drFew xs) (F i).2) (by omega))), rfl, rfl, rfl, rfl, ?_⟩ | refine .inr ⟨[(lentId 0)], _, _, _, _, _, _, _, _, rfl, rfl, rfl, rfl, (sm_E13 (pick_satM xs hx hl 4 (by omega) (pkS xs (drFew xs) (F i).2) (by omega))), rfl, rfl, rfl, rfl, ?_⟩ | refine ⟨[(lentId 0)], _, _, _, _, _, rfl, rfl, rfl, rfl, (sm_E13 (pick_satM xs hx hl 4 (by omega) (pkS xs (drFew xs) (F i).2) (by omega))), rfl, rfl, ?_⟩
  conv => whnf
  repeat (first | (refine go_E13 ?_; conv => whnf) | (refine lk_E13 ?_; conv => whnf))
  have setA := roof_set (r := (F i).1) (c := (nthP ps i).1) (k := (nthP ps i).2) (o := 0 + 3 + ((nthP ps i).1 : Int).toNat * 8 + ((nthP ps i).2 : Int).toNat * 1) (x := IntKind.u8.wrap (pkV xs 4 (pkS xs (drFew xs) (F i).2))) (by simp) hqi.1 hqi.2
  rw [wu8 (n := pkV xs 4 (pkS xs (drFew xs) (F i).2)) (by omega) (by omega)] at setA ⊢
  refine ⟨i + 1, ?_, ?_, sim_of (rn := [((2, 0, 0), (2, 0, 0)), ((3, 0, 0), (3, 0, 0)), ((22, 0, 0), (22, 0, 0))]) rfl ?_ ?_⟩
  · (dsimp only; omega)
  · exact okt_E13
  · exact hold_E13
  · ((repeat' (first | exact trivial | apply And.intro)) <;> ((first | refine ⟨_, _, rfl, rfl, ?_⟩ ); first | rfl | (first | (rw [e]; rfl) | (rw [e]; exact cset setA))))
theorem a2Roof_sat (xs : List Int) (hx : Bytes xs) (hl : xs.length ≤ 3000) (m : Bool) : Sat Tryd.prog 37 [u8D m xs] (roofD (dwR xs).1) := by
  refine sat_of_wp hMix tOk Tryd.func37 rfl rfl Tryd.ntmps37 rfl rfl Tryd.results37 (by kernel_rfl) ?_
  conv => whnf
  repeat (first | (refine go_E13 ?_; conv => whnf) | (refine lk_E13 ?_; conv => whnf))
  first | refine ⟨[], _, _, _, _, _, _, _, _, rfl, rfl, rfl, rfl, (sm_E13 (l00From_satM xs)), rfl, rfl, rfl, rfl, ?_⟩ | refine .inr ⟨[], _, _, _, _, _, _, _, _, rfl, rfl, rfl, rfl, (sm_E13 (l00From_satM xs)), rfl, rfl, rfl, rfl, ?_⟩ | refine ⟨[], _, _, _, _, _, rfl, rfl, rfl, rfl, (sm_E13 (l00From_satM xs)), rfl, rfl, ?_⟩
  conv => whnf
  repeat (first | (refine go_E13 ?_; conv => whnf) | (refine lk_E13 ?_; conv => whnf))
  first | refine ⟨[(4, 0, 0)], _, _, _, _, _, _, _, _, rfl, rfl, rfl, rfl, (sm_E13 (l01Drawn_satM xs hx hl)), rfl, rfl, rfl, rfl, ?_⟩ | refine .inr ⟨[(4, 0, 0)], _, _, _, _, _, _, _, _, rfl, rfl, rfl, rfl, (sm_E13 (l01Drawn_satM xs hx hl)), rfl, rfl, rfl, rfl, ?_⟩ | refine ⟨[(4, 0, 0)], _, _, _, _, _, rfl, rfl, rfl, rfl, (sm_E13 (l01Drawn_satM xs hx hl)), rfl, rfl, ?_⟩
  conv => whnf
  repeat (first | (refine go_E13 ?_; conv => whnf) | (refine lk_E13 ?_; conv => whnf))
  first | refine ⟨rfl, _, rfl, ?_⟩ | refine ⟨_, rfl, ?_⟩
  skip
  exact (roofD_copied (r := (dwR xs).1) (xs := [.int .i8 0, .int .i8 0] ++ List.replicate 65 (.int .u8 0)) (by simp)).symm.trans (by rw [take_drop0 (n := 67) (xs := roofC (dwR xs).1) (by simp)]; rfl)
end Go.Proofs.YtdbhfobnmlogeaaDoor
/- Contracts: what the laws ask of lists, of places and of roofs. -/
set_option linter.unusedVariables false
set_option linter.unusedSimpArgs false
namespace Go.V
/- Words for the walks of this text: their default arguments are tried where they are used. -/
theorem go_E14 {P Q : Prop} (k : Q) (h : P := by first | exact Nat.le_of_ble_eq_true rfl | exact trivial | exact rfl | decide | omega | (simp [splice]; done) | (constructor <;> omega) | (simp [splice]; omega)) : P ∧ Q := ⟨h, k⟩
theorem lk_E14 {α : Type} {o : Option α} {K : α → Prop} {x : α} (k : K x) (h : o = some x := by first | exact u8A (by omega) | exact u8A' (by omega) | exact intA (by omega) | exact intA' (by omega)) : optK o K := optK_of h k
end Go.V
namespace Go.V
def atV (xs : List Int) (i : Nat) (n : Int) : Int := if xs.length ≤ i then 0 else (ix xs i).tmod n
theorem atV_in {xs : List Int} (h : Bytes xs) (i : Nat) {n : Int} (hn : 1 ≤ n) : 0 ≤ atV xs i n ∧ atV xs i n < n := by
  unfold atV
  split
  · omega
  · have := h i (by omega)
    have e : (ix xs i).tmod n = ix xs i % n := Int.tmod_eq_emod_of_nonneg this.1
    rw [e]
    exact ⟨Int.emod_nonneg _ (by omega), Int.emod_lt_of_pos _ (by omega)⟩
end Go.V
namespace Go.Proofs.YtdbhfobnmlogeaaDoor
open Go.V
theorem a2Long_sat (xs ys : List Int) (m m' : Bool) : Sat Tryd.prog 36 [u8D m xs, u8D m' ys] (.v (.bool (decide ((xs.length : Int) > 3000) || decide ((ys.length : Int) > 3000)))) := by
  refine sat_of_wp hMix tOk Tryd.func36 rfl rfl Tryd.ntmps36 rfl rfl Tryd.results36 (by kernel_rfl) ?_
  conv => whnf
  repeat (first | (refine go_E14 ?_; conv => whnf) | (refine lk_E14 ?_; conv => whnf))
  cases h : decide ((xs.length : Int) > 3000)
  · conv => whnf
    repeat (first | (refine go_E14 ?_; conv => whnf) | (refine lk_E14 ?_; conv => whnf))
    first | refine ⟨rfl, _, rfl, ?_⟩ | refine ⟨_, rfl, ?_⟩
    rfl
  · conv => whnf
    repeat (first | (refine go_E14 ?_; conv => whnf) | (refine lk_E14 ?_; conv => whnf))
    first | refine ⟨rfl, _, rfl, ?_⟩ | refine ⟨_, rfl, ?_⟩
    rfl
theorem a2At_sat (xs : List Int) (hx : Bytes xs) (hl : xs.length ≤ 3000) (i : Nat) (hi : i ≤ 10) (n : Int) (hn : 1 ≤ n ∧ n ≤ 1000) (m : Bool) : Sat Tryd.prog 39 [u8D m xs, .v (.int .i64 i), .v (.int .i64 n)] (.v (.int .i64 (atV xs i n))) := by
  have hne : n ≠ 0 := by omega
  refine sat_of_wp hMix tOk Tryd.func39 rfl rfl Tryd.ntmps39 rfl rfl Tryd.results39 (by kernel_rfl) ?_
  conv => whnf
  repeat (first | (refine go_E14 ?_; conv => whnf) | (refine lk_E14 ?_; conv => whnf))
  cases h : decide ((i : Int) ≥ (xs.length : Int))
  case true =>
    have h' : xs.length ≤ i := by simp at h; omega
    rw [show atV xs i n = 0 by unfold atV; rw [if_pos h']]
    conv => whnf
    repeat (first | (refine go_E14 ?_; conv => whnf) | (refine lk_E14 ?_; conv => whnf))
    first | refine ⟨rfl, _, rfl, ?_⟩ | refine ⟨_, rfl, ?_⟩
    rfl
  have h' : ¬ xs.length ≤ i := by simp at h; omega
  have hb := hx i (by omega)
  rw [show atV xs i n = (ix xs i).tmod n by unfold atV; rw [if_neg h']]
  conv => whnf
  repeat (first | (refine go_E14 ?_; conv => whnf) | (refine lk_E14 ?_; conv => whnf))
  rw [show decide (n < 1) = false by simp; omega]
  conv => whnf
  repeat (first | (refine go_E14 ?_; conv => whnf) | (refine lk_E14 ?_; conv => whnf))
  rw [show IntKind.i64.wrap (ix xs i) = ix xs i from w64 (by omega) (by omega)]
  conv => whnf
  repeat (first | (refine go_E14 ?_; conv => whnf) | (refine lk_E14 ?_; conv => whnf))
  have hq : (ix xs i).tmod n = ix xs i % n := Int.tmod_eq_emod_of_nonneg hb.1
  first | refine ⟨rfl, _, rfl, ?_⟩ | refine ⟨_, rfl, ?_⟩
  rfl
end Go.Proofs.YtdbhfobnmlogeaaDoor
/- Patterns: plain laws, and the word that is drawn. -/
set_option linter.unusedVariables false
set_option linter.unusedSimpArgs false
namespace Go.V
/- Words for the walks of this text: their default arguments are tried where they are used. -/
theorem go_F10 {P Q : Prop} (k : Q) (h : P := by first | exact strOk (by first | omega | (simp; omega)) | exact Nat.le_of_ble_eq_true rfl | exact trivial | exact rfl | decide | omega | (simp [splice]; done) | (constructor <;> omega) | (simp [splice]; omega)) : P ∧ Q := ⟨h, k⟩
theorem lk_F10 {α : Type} {o : Option α} {K : α → Prop} {x : α} (k : K x) (h : o = some x := by first | exact strA (by omega) | exact strA' (by omega) | exact intA (by omega) | exact intA' (by omega)) : optK o K := optK_of h k
theorem sm_F10 {P : Program} {g : FuncId} {args args' ms ms0 : List D} {res : D} {ms' : List (Option D)} {news : List D} (h : SatM P g args ms res ms' news) (e : args' = args := by repeat (first | rfl | exact vfull (by first | (simp [splice]; done) | (simp [splice]; omega)) | exact rfull (by first | (simp [splice]; done) | (simp [splice]; omega))  | refine ceq ?_ ?_ )) (e2 : ms0 = ms := by repeat (first | rfl | exact vfull (by first | (simp [splice]; done) | (simp [splice]; omega)) | exact rfull (by first | (simp [splice]; done) | (simp [splice]; omega))  | refine ceq ?_ ?_ )) : SatM P g args' ms0 res ms' news := SatM.of_eq h e e2
theorem leaf_F10 {P : Prop} (h : P := by first | rfl | exact succ8 (by omega) | exact succ64 (by omega) | exact CapOk.fn (by assumption) _ _ | exact vintS (by omega) | exact vintS (by rw [w64 (by omega) (by omega)]; omega) | exact vintS (by rw [w8 (by omega) (by omega)]; omega) | exact vslcS (by omega) | exact vslcS (by simp)) : P := h
theorem hold_F10 {P : Prop} (h : P := by (repeat' (first | exact trivial | apply And.intro)) <;> (first | rfl | exact succ8 (by omega) | exact succ64 (by omega) | exact CapOk.fn (by assumption) _ _ | exact vintS (by omega) | exact vintS (by rw [w64 (by omega) (by omega)]; omega) | exact vintS (by rw [w8 (by omega) (by omega)]; omega) | exact vslcS (by omega) | exact vslcS (by simp))) : P := h
theorem okt_F10 {P : Prop} (h : P := by first | omega | (dsimp only; omega) | ((repeat' apply And.intro) <;> omega) | (dsimp only; (repeat' apply And.intro) <;> omega) | trivial) : P := h
end Go.V
namespace Go.V
/-! Patterns by their bits. -/
theorem orU8_bit : ∀ k : Nat, k < 8 → ∀ x : Nat, x < 256 → orU8 (x : Int) (IntKind.u8.wrap (1 * 2 ^ (min k IntKind.u8.bits))) = ((x ||| 2 ^ k : Nat) : Int) := by decide +kernel
theorem accF_bits (b : ByteArray) (s i : Nat) : ∀ (ps : List Pl) (f : Nat → Int) (x : Nat), (∀ q ∈ ps, q.2 < 8) → x < 256 → f i = x →
    ∃ y : Nat, y < 256 ∧ ps.foldl (accS b s) f i = y ∧ ∀ j, y.testBit j = (x.testBit j || ps.any fun q => decide (q.1 = i) && (decide (q.2 = j) && patB b s i j))
  | [], f, x, _, hx, h => ⟨x, hx, h, fun j => by simp⟩
  | q :: ps, f, x, hq, hx, h => by
    have hq2 := hq q (by simp)
    by_cases hc : i = q.1 ∧ patB b s q.1 q.2 = true
    · have e : accS b s f q i = ((x ||| 2 ^ q.2 : Nat) : Int) := by unfold accS; rw [if_pos hc, h]; exact orU8_bit _ hq2 x hx
      have h2 : 2 ^ q.2 < 2 ^ 8 := Nat.pow_lt_pow_right (by omega) hq2
      obtain ⟨y, h1, h2, h3⟩ := accF_bits b s i ps (accS b s f q) _ (fun p hp => hq p (by simp [hp])) (Nat.or_lt_two_pow (n := 8) hx h2) e
      refine ⟨y, h1, h2, fun j => ?_⟩
      rw [h3, Nat.testBit_or, Nat.testBit_two_pow, List.any_cons, Bool.or_assoc]
      congr 2
      rw [decide_eq_true hc.1.symm, Bool.true_and]
      by_cases e2 : q.2 = j
      · have : patB b s i j = true := by rw [hc.1, ← e2]; exact hc.2
        rw [this, Bool.and_true]
      · rw [decide_eq_false e2, Bool.false_and]
    · have e : accS b s f q i = x := by unfold accS; rw [if_neg hc, h]
      obtain ⟨y, h1, h2, h3⟩ := accF_bits b s i ps (accS b s f q) _ (fun p hp => hq p (by simp [hp])) hx e
      refine ⟨y, h1, h2, fun j => ?_⟩
      rw [h3, List.any_cons]
      have : (decide (q.1 = i) && (decide (q.2 = j) && patB b s i j)) = false := by
        by_cases e1 : q.1 = i
        · by_cases e2 : q.2 = j
          · have : patB b s i j = false := by
              cases hp : patB b s i j
              · rfl
              · exact absurd ⟨e1.symm, by rw [e1, e2]; exact hp⟩ hc
            rw [this]; simp
          · rw [decide_eq_false e2]; simp
        · rw [decide_eq_false e1]; rfl
      rw [this, Bool.false_or]
theorem patR_bits {r : Roof} (hb : Rb r) (b : ByteArray) (s i : Nat) : ∃ y : Nat, y < 256 ∧ patR r b s i = y ∧ ∀ j, y.testBit j = (decide ((i : Int) < r.h) && (decide ((j : Int) < r.w) && patB b s i j)) := by
  obtain ⟨y, h1, h2, h3⟩ := accF_bits b s i (gridP r.w.toNat r.h.toNat) (fun _ => 0) 0 (fun q hq => by have := (grid_mem.1 hq).2; omega) (by omega) rfl
  refine ⟨y, h1, h2, fun j => ?_⟩
  rw [h3, Nat.zero_testBit, Bool.false_or, Bool.eq_iff_iff, List.any_eq_true]
  simp only [Bool.and_eq_true, decide_eq_true_eq]
  constructor
  · rintro ⟨q, hq, h4, h5, h6⟩
    have := grid_mem.1 hq
    exact ⟨by omega, by omega, h6⟩
  · rintro ⟨h4, h5, h6⟩
    exact ⟨(i, j), grid_mem.2 ⟨by show i < _; omega, by show j < _; omega⟩, rfl, rfl, h6⟩
theorem shr_lt : ∀ w : Nat, w < 9 → ∀ x : Nat, x < 256 → x < 2 ^ w → shrI (x : Int) w = 0 := by decide +kernel
theorem bits_lt {y w : Nat} (h : ∀ j, w ≤ j → y.testBit j = false) : y < 2 ^ w := Nat.lt_pow_two_of_testBit y fun i hi => h i hi
theorem okC_iff {r : Roof} {f : Nat → Int} : okC r f = true ↔ okR r = true ∧ ∀ i, i < 8 → shrI (f i) r.w = 0 ∧ ((i : Int) < r.h ∨ f i = 0) := by
  unfold okC colOk
  simp [List.all_eq_true]
theorem patR_ok {r : Roof} (hR : okR r = true) (b : ByteArray) (s : Nat) : okC r (patR r b s) = true := by
  have hb := okR_bounds hR
  rw [okC_iff]
  refine ⟨hR, fun i hi => ?_⟩
  obtain ⟨y, h1, h2, h3⟩ := patR_bits hb b s i
  rw [h2]
  have hw : ((r.w.toNat : Nat) : Int) = r.w := by omega
  constructor
  · rw [← hw]
    refine shr_lt _ (by omega) y h1 (bits_lt fun j hj => ?_)
    rw [h3, show decide ((j : Int) < r.w) = false by simp; omega]; simp
  · by_cases hi2 : (i : Int) < r.h
    · exact .inl hi2
    · refine .inr ?_
      have : y = 0 := Nat.eq_of_testBit_eq fun j => by rw [h3, decide_eq_false hi2]; simp
      rw [this]; rfl
theorem patB_mod (b : ByteArray) (s : Nat) : patB b s = patB b (s % b.size) := by
  funext c k
  unfold patB
  have : (k + s * c) % b.size = (k + s % b.size * c) % b.size := by
    rw [Nat.add_mod, Nat.mul_mod, Nat.add_mod k (s % b.size * c), Nat.mul_mod (s % b.size) c, Nat.mod_mod]
  rw [this]
theorem patR_mod (r : Roof) (b : ByteArray) (s : Nat) : patR r b s = patR r b (s % b.size) := by
  have : accS b s = accS b (s % b.size) := by funext f q j; unfold accS; rw [patB_mod b s]
  unfold patR acc
  rw [this]
theorem patR_in (r : Roof) (b : ByteArray) (s : Nat) : RowIn (patR r b s) := acc_in _ _ _
/-! Mirrored twice. -/
theorem mir_fin : ∀ w : Nat, w < 9 → ∀ x : Nat, x < 256 → 0 ≤ (rev8 (x : Int)).fdiv (2 ^ (min (8 - w) IntKind.u8.bits)) ∧ (rev8 (x : Int)).fdiv (2 ^ (min (8 - w) IntKind.u8.bits)) ≤ 255 := by decide +kernel
theorem mir_fsh : ∀ w : Nat, w < 9 → ∀ x : Nat, x < 256 → shrI ((rev8 (x : Int)).fdiv (2 ^ (min (8 - w) IntKind.u8.bits))) w = 0 := by decide +kernel
theorem mir_fba : ∀ w : Nat, w < 9 → ∀ x : Nat, x < 256 → shrI (x : Int) w = 0 → (rev8 ((rev8 (x : Int)).fdiv (2 ^ (min (8 - w) IntKind.u8.bits)))).fdiv (2 ^ (min (8 - w) IntKind.u8.bits)) = x := by decide +kernel
theorem mir_fze : ∀ w : Nat, w < 9 → (rev8 (0 : Int)).fdiv (2 ^ (min (8 - w) IntKind.u8.bits)) = 0 := by decide +kernel
theorem mir_fact2 (w : Nat) (hw : w < 9) (x : Nat) (hx : x < 256) (_ : 0 < w) : (0 ≤ (rev8 (x : Int)).fdiv (2 ^ (min (8 - w) IntKind.u8.bits)) ∧ (rev8 (x : Int)).fdiv (2 ^ (min (8 - w) IntKind.u8.bits)) ≤ 255) ∧ (shrI (x : Int) w = 0 →
    shrI ((rev8 (x : Int)).fdiv (2 ^ (min (8 - w) IntKind.u8.bits))) w = 0 ∧ (rev8 ((rev8 (x : Int)).fdiv (2 ^ (min (8 - w) IntKind.u8.bits)))).fdiv (2 ^ (min (8 - w) IntKind.u8.bits)) = x ∧ (x = 0 → (rev8 (x : Int)).fdiv (2 ^ (min (8 - w) IntKind.u8.bits)) = 0)) :=
  ⟨mir_fin w hw x hx, fun h => ⟨mir_fsh w hw x hx, mir_fba w hw x hx h, fun e => by subst e; exact mir_fze w hw⟩⟩
theorem mirOut_is {r : Roof} {g : Nat → Int} (h : okC r g = true) (i : Nat) : mirOut r g i = (rev8 (g i)).fdiv (2 ^ (min (8 - r.w).toNat IntKind.u8.bits)) := by unfold mirOut mir; rw [if_pos h]
theorem mir_all {r : Roof} {f : Nat → Int} (hf : RowIn f) (h : okC r f = true) : RowIn (mirOut r f) ∧ okC r (mirOut r f) = true ∧ row8 (mirOut r (mirOut r f)) = row8 f := by
  have hb := okC_bounds h
  have hw : ((r.w.toNat : Nat) : Int) = r.w := by omega
  have hw2 : (8 - r.w).toNat = 8 - r.w.toNat := by omega
  have key : ∀ i, mirOut r f i = (rev8 (f i)).fdiv (2 ^ (min (8 - r.w.toNat) IntKind.u8.bits)) := fun i => by unfold mirOut mir; rw [if_pos h, hw2]
  have hin : RowIn (mirOut r f) := ⟨fun i => by
    obtain ⟨x, hx⟩ := eq_toNat (hf.t i).1
    have hx2 := (hf.t i).2
    rw [key, hx]
    exact (mir_fact2 _ (by omega) x (by omega) (by omega)).1⟩
  obtain ⟨hR, hc⟩ := okC_iff.1 h
  have hfact : ∀ i, i < 8 → shrI (mirOut r f i) r.w = 0 ∧ (rev8 (mirOut r f i)).fdiv (2 ^ (min (8 - r.w.toNat) IntKind.u8.bits)) = f i ∧ (f i = 0 → mirOut r f i = 0) := fun i hi => by
    obtain ⟨x, hx⟩ := eq_toNat (hf.t i).1
    have hx2 := (hf.t i).2
    have h1 := (hc i hi).1
    rw [key, hx]
    rw [hx] at h1 hx2
    have := (mir_fact2 r.w.toNat (by omega) x (by omega) (by omega)).2 (by rw [hw]; exact h1)
    rw [hw] at this
    exact ⟨this.1, this.2.1, fun h0 => this.2.2 (by omega)⟩
  have hok : okC r (mirOut r f) = true := okC_iff.2 ⟨hR, fun i hi => ⟨(hfact i hi).1, by
    rcases (hc i hi).2 with h2 | h2
    · exact .inl h2
    · exact .inr ((hfact i hi).2.2 h2)⟩⟩
  refine ⟨hin, hok, ?_⟩
  unfold row8
  refine tab_congr fun i hi => ?_
  have : mirOut r (mirOut r f) i = f i := by
    rw [mirOut_is hok, hw2]
    exact (hfact i hi).2.1
  rw [this]
/-! Off by. -/
theorem xor_self_cnt (f : Nat → Int) : cntC (xorR f f) 8 = 0 := by
  have : xorR f f = fun _ => 0 := by funext i; unfold xorR; rw [BitVec.xor_self]; rfl
  rw [this]; rfl
theorem xor0_fact : ∀ x : Nat, x < 256 → IntKind.u8.wrap (BitVec.ofInt IntKind.u8.bits (x : Int) ^^^ BitVec.ofInt IntKind.u8.bits 0).toNat = x := by decide +kernel
theorem xor_zero_cnt {f : Nat → Int} (hf : RowIn f) : cntC (xorR f fun _ => 0) 8 = cntC f 8 := by
  have : (xorR f fun _ => 0) = f := by
    funext i
    obtain ⟨x, hx⟩ := eq_toNat (hf.t i).1
    have := (hf.t i).2
    unfold xorR
    rw [hx]
    exact xor0_fact x (by omega)
  rw [this]
/-! Reds counted one by one. -/
def cntP (f : Nat → Int) (w : Nat) : Nat → Int
  | 0 => 0
  | i + 1 => cntP f w i + cntK (f i) w
theorem cnt_fact : ∀ w : Nat, w < 9 → ∀ x : Nat, x < 256 → shrI (x : Int) w = 0 → cntK (x : Int) 8 = cntK (x : Int) w := by decide +kernel
theorem cntP_eq {r : Roof} {f : Nat → Int} (hf : RowIn f) (h : okC r f = true) : cntP f r.w.toNat r.h.toNat = cntC f 8 := by
  have hb := okC_bounds h
  obtain ⟨hR, hc⟩ := okC_iff.1 h
  have hw : ((r.w.toNat : Nat) : Int) = r.w := by omega
  have : ∀ i, i ≤ 8 → cntC f i = cntP f r.w.toNat (min i r.h.toNat) := by
    intro i
    induction i with
    | zero => intro _; rw [Nat.zero_min]; rfl
    | succ i ih =>
      intro hi
      have ih := ih (by omega)
      rw [cntC, ih]
      obtain ⟨x, hx⟩ := eq_toNat (hf.t i).1
      have hx2 := (hf.t i).2
      rcases (hc i (by omega)).2 with h2 | h2
      · rw [show min (i + 1) r.h.toNat = i + 1 by omega, show min i r.h.toNat = i by omega, cntP, hx, cnt_fact r.w.toNat (by omega) x (by omega) (by rw [hw, ← hx]; exact (hc i (by omega)).1)]
      · by_cases h3 : (i : Int) < r.h
        · rw [show min (i + 1) r.h.toNat = i + 1 by omega, show min i r.h.toNat = i by omega, cntP, hx, cnt_fact r.w.toNat (by omega) x (by omega) (by rw [hw, ← hx]; exact (hc i (by omega)).1)]
        · rw [show min (i + 1) r.h.toNat = r.h.toNat by omega, show min i r.h.toNat = r.h.toNat by omega, h2]
          show _ + cntK 0 8 = _
          rw [show cntK 0 8 = 0 by decide]; omega
  rw [this 8 (Nat.le_refl _), show min 8 r.h.toNat = r.h.toNat by omega]
theorem cntP_in {f : Nat → Int} (hf : RowIn f) {w : Nat} (hw : w < 9) : ∀ i, 0 ≤ cntP f w i ∧ cntP f w i ≤ 8 * i
  | 0 => by simp [cntP]
  | i + 1 => by
    have := cntP_in hf hw i
    have h2 := cntK_bound hf i hw
    rw [cntP]; omega
theorem bitN_fact : ∀ k : Nat, k < 8 → ∀ x : Nat, x < 256 → ((x : Int).fdiv (2 ^ (min k IntKind.u8.bits))).tmod 2 = if bitR (x : Int) k = true then 1 else 0 := by decide +kernel
theorem patR_red {r : Roof} (hb : Rb r) (b : ByteArray) (s : Nat) {i k : Nat} (hi : (i : Int) < r.h) (hk : (k : Int) < r.w) :
    (((patR r b s i).fdiv (2 ^ (min k IntKind.u8.bits))).tmod 2 == 1) = patB b s i k ∧ cntK (patR r b s i) (k + 1) = if patB b s i k = true then cntK (patR r b s i) k + 1 else cntK (patR r b s i) k := by
  obtain ⟨y, h1, h2, h3⟩ := patR_bits hb b s i
  have h4 := bitR_fact y h1 k (by omega)
  rw [h3 k, decide_eq_true hi, decide_eq_true hk, Bool.true_and, Bool.true_and] at h4
  rw [h2]
  refine ⟨h4, ?_⟩
  rw [cntK, bitN_fact k (by omega) y h1, h4]
  split <;> omega
/-! The nearest. -/
def Pst (n : Nat → Nat) (a c : Nat) (i k : Nat) : Prop := (i < a ∧ k < n i) ∨ (i = a ∧ k < c)
def Best (o : Nat → Nat → Int) (P : Nat → Nat → Prop) (t : Near) : Prop :=
  ((∃ i k : Nat, P i k ∧ t = ((i : Int), (k : Int), o i k)) ∨ (t = (0, 0, 65) ∧ ∀ i k, ¬ P i k)) ∧ ∀ i k : Nat, P i k → t.2.2 < o i k ∨ (t.2.2 = o i k ∧ (t.1 < i ∨ (t.1 = i ∧ t.2.1 ≤ k)))
theorem Best.of {o : Nat → Nat → Int} {P Q : Nat → Nat → Prop} {t : Near} (h : Best o P t) (hq : ∀ i k, P i k ↔ Q i k) : Best o Q t := by
  have : P = Q := by funext i k; exact propext (hq i k)
  rw [← this]; exact h
theorem best_in {o : Nat → Nat → Int} (ho : ∀ i k, 0 ≤ o i k ∧ o i k ≤ 64) {n : Nat → Nat} {a : Nat} {t : Near} (h : Best o (Pst n a 0) t) : ∀ c, Best o (Pst n a c) (nIn (o a) a t c)
  | 0 => h
  | c + 1 => by
    obtain ⟨h1, h2⟩ := best_in ho h c
    rw [nIn]
    generalize nIn (o a) a t c = u at h1 h2
    have hac := ho a c
    unfold nStep
    by_cases hlt : o a c < u.2.2
    · rw [if_pos hlt]
      refine ⟨.inl ⟨a, c, .inr ⟨rfl, by omega⟩, rfl⟩, fun i k hp => ?_⟩
      dsimp only
      by_cases hold : Pst n a c i k
      · rcases h2 i k hold with h3 | ⟨h3, _⟩ <;> (left; omega)
      · have : i = a ∧ k = c := by unfold Pst at hp hold; omega
        obtain ⟨rfl, rfl⟩ := this
        right; exact ⟨rfl, .inr ⟨rfl, Int.le_refl _⟩⟩
    · rw [if_neg hlt]
      have hsome : ∃ i k : Nat, Pst n a c i k ∧ u = ((i : Int), (k : Int), o i k) := by
        rcases h1 with h1 | ⟨h1, _⟩
        · exact h1
        · rw [h1] at hlt; simp at hlt; omega
      obtain ⟨i0, k0, hp0, e0⟩ := hsome
      refine ⟨.inl ⟨i0, k0, by unfold Pst at hp0 ⊢; omega, e0⟩, fun i k hp => ?_⟩
      by_cases hold : Pst n a c i k
      · exact h2 i k hold
      · have : i = a ∧ k = c := by unfold Pst at hp hold; omega
        obtain ⟨rfl, rfl⟩ := this
        rw [e0] at hlt ⊢
        simp only at hlt ⊢
        unfold Pst at hp0
        by_cases he : o i0 k0 = o i k
        · right; refine ⟨he, ?_⟩; omega
        · left; omega
theorem best_out {o : Nat → Nat → Int} (ho : ∀ i k, 0 ≤ o i k ∧ o i k ≤ 64) (n : Nat → Nat) : ∀ a, Best o (Pst n a 0) (nOut o n a)
  | 0 => ⟨.inr ⟨rfl, fun i k => by unfold Pst; omega⟩, fun i k h => by unfold Pst at h; omega⟩
  | a + 1 => by
    rw [nOut]
    refine (best_in ho (best_out ho n a) (n a)).of fun i k => ?_
    unfold Pst
    constructor
    · rintro (h | ⟨h1, h2⟩)
      · left; omega
      · left; subst h1; omega
    · rintro (⟨h1, h2⟩ | h)
      · by_cases e : i = a
        · right; subst e; exact ⟨rfl, h2⟩
        · left; omega
      · omega
/-! A pattern is found again. -/
theorem findN_part {r : Roof} {f : Nat → Int} {n0 m : Nat} (hm : n0 ≤ m) {q : Nat × Nat × Nat} (h : findN r f n0 = some q) : findN r f m = some q := by
  obtain ⟨k, rfl⟩ : ∃ k, m = n0 + k := ⟨m - n0, by omega⟩
  unfold findN at *
  rw [List.range_add, List.findSome?_append, h]; rfl
theorem findN_is {r : Roof} {f : Nat → Int} {n0 : Nat} {q : Nat × Nat × Nat} (h : findN r f n0 = some q) : 1 ≤ q.1 ∧ q.1 ≤ n0 ∧ q.2.2 < q.1 ∧ isPat r f q.1 q.2.1 q.2.2 = true := by
  unfold findN at h
  obtain ⟨n, hn, h1⟩ := List.exists_of_findSome?_eq_some h
  rw [List.mem_range] at hn
  cases hj : findJ r f (n + 1) with
  | none => rw [hj] at h1; cases h1
  | some p =>
    rw [hj] at h1
    simp only [Option.map_some, Option.some.injEq] at h1
    subst h1
    unfold findJ at hj
    obtain ⟨j, hj1, hj2⟩ := List.exists_of_findSome?_eq_some hj
    cases hs : findS r f (n + 1) j with
    | none => rw [hs] at hj2; cases hj2
    | some s =>
      rw [hs] at hj2
      simp only [Option.map_some, Option.some.injEq] at hj2
      subst hj2
      unfold findS at hs
      have h3 := List.find?_some hs
      have h4 := List.mem_of_find?_eq_some hs
      rw [List.mem_range] at h4
      exact ⟨by simp, by show n + 1 ≤ n0; omega, h4, h3⟩
theorem findN_has {r : Roof} {f : Nat → Int} {n j s : Nat} (hn : 1 ≤ n) (hj : j < 2 ^ n) (hs : s < n) (h : isPat r f n j s = true) : ∃ q, findN r f n = some q := by
  have hS : findS r f n j ≠ none := fun e => by
    unfold findS at e
    rw [List.find?_eq_none] at e
    exact e s (List.mem_range.2 hs) h
  have hJ : findJ r f n ≠ none := fun e => by
    unfold findJ at e
    rw [List.findSome?_eq_none_iff] at e
    have := e j (List.mem_range.2 hj)
    cases hh : findS r f n j with
    | none => exact hS hh
    | some x => rw [hh] at this; cases this
  have hN : findN r f n ≠ none := fun e => by
    unfold findN at e
    rw [List.findSome?_eq_none_iff] at e
    have := e (n - 1) (List.mem_range.2 (by omega))
    rw [show n - 1 + 1 = n by omega] at this
    cases hh : findJ r f n with
    | none => exact hJ hh
    | some x => rw [hh] at this; cases this
  cases hh : findN r f n with
  | none => exact absurd hh hN
  | some q => exact ⟨q, rfl⟩
theorem find_again {r : Roof} {n j s : Nat} (hn : 1 ≤ n ∧ n ≤ 5) (hj : j < 2 ^ n) : ∃ n' j' s' : Nat, findN r (patR r (word n j) s) 5 = some (n', j', s') ∧ 1 ≤ n' ∧ n' ≤ n ∧ s' < n' ∧ eq8 (patR r (word n' j') s') (patR r (word n j) s) = true := by
  have hp : isPat r (patR r (word n j) s) n j (s % n) = true := by
    unfold isPat
    have := patR_mod r (word n j) s
    rw [word_size] at this
    rw [← this]
    exact eq8_iff.2 rfl
  obtain ⟨q, hq⟩ := findN_has hn.1 hj (Nat.mod_lt _ (by omega)) hp
  have h2 := findN_is hq
  exact ⟨q.1, q.2.1, q.2.2, findN_part hn.2 hq, h2.1, h2.2.1, h2.2.2.1, h2.2.2.2⟩
theorem byteAt_append {a b : ByteArray} {i : Nat} : byteAt (a ++ b) i = if i < a.size then byteAt a i else byteAt b (i - a.size) := by
  unfold byteAt
  rw [ByteArray.data_append, Array.toList_append, List.getD_eq_getElem?_getD, List.getElem?_append]
  have : a.data.toList.length = a.size := by simp
  rw [this]
  split
  · rw [List.getD_eq_getElem?_getD]
  · rw [List.getD_eq_getElem?_getD]
theorem word_ch : ∀ n j i, i < n → byteAt (word n j) i = 114 ∨ byteAt (word n j) i = 98
  | 0, j, i, h => by omega
  | n + 1, j, i, h => by
    rw [word, byteAt_append, word_size]
    by_cases hi : i < n
    · rw [if_pos hi]; exact word_ch n _ i hi
    · rw [if_neg hi, show i - n = 0 by omega]
      split
      · left; rfl
      · right; rfl
theorem word_ok {n j : Nat} (hn : 1 ≤ n ∧ n ≤ 12) : okW (word n j) = true := by
  unfold okW
  have : anyB (fun n => !chOk n) (word n j) = false := anyB_false fun i hi => by
    rw [word_size] at hi
    rcases word_ch n j i hi with h | h <;> rw [h] <;> rfl
  rw [this, word_size]
  simp; omega
/-! Colours read from their own text. -/
def rowLn (x : Int) (w : Nat) : List UInt8 := (List.range w).map fun k => if bitR x k = true then 114 else 98
theorem rowLn_len (x : Int) (w : Nat) : (rowLn x w).length = w := by unfold rowLn; simp
theorem rowLn_at {x : Int} {w k : Nat} (h : k < w) : (rowLn x w).getD k 0 = if bitR x k = true then 114 else 98 := by
  unfold rowLn
  rw [List.getD_eq_getElem?_getD, List.getElem?_map, List.getElem?_range h]; rfl
theorem rowLn_rb (x : Int) (w : Nat) : rbB (rowLn x w) = true := by
  refine rb_yes fun j hj => ?_
  rw [rowLn_len] at hj
  rw [rowLn_at hj]
  split
  · left; rfl
  · right; rfl
theorem shr_pow : ∀ w : Nat, w < 9 → ∀ x : Nat, x < 256 → shrI (x : Int) w = 0 → x < 2 ^ w := by decide +kernel
theorem rowLn_col {x w : Nat} (hw : w < 9) (hx : x < 256) (h : shrI (x : Int) w = 0) : colN (rowLn x w) w = x := by
  refine Nat.eq_of_testBit_eq fun j => ?_
  by_cases hj : j < w
  · rw [colN_bit _ w j hj, rowLn_at hj, ← bitR_fact x hx j (by omega)]
    cases bitR (x : Int) j <;> rfl
  · have h1 := colN_lt (rowLn x w) w
    have h2 := shr_pow w hw x hx h
    have h3 : 2 ^ w ≤ 2 ^ j := Nat.pow_le_pow_right (by omega) (by omega)
    rw [Nat.testBit_lt_two_pow (by omega), Nat.testBit_lt_two_pow (by omega)]
theorem spl_catL {c : UInt8} : ∀ {L : List (List UInt8)}, (∀ x ∈ L, ∀ b ∈ x, b ≠ c) → spl c (catL c L) = L ++ [[]]
  | [], _ => rfl
  | x :: L, h => by
    have ih := spl_catL (c := c) (L := L) fun y hy => h y (by simp [hy])
    have e : catL c (x :: L) = x ++ c :: catL c L := by unfold catL; simp
    rw [e, spl_part (h x (by simp)), ih]; rfl
theorem read_own {r : Roof} {f : Nat → Int} (hf : RowIn f) (h : okC r f = true) : ∃ l : List UInt8, colText r f = bsOf l ∧ l.length ≤ 1000 ∧ rcV r l = .tup [row8D f, .v (.int .i64 0)] := by
  have hb := okC_bounds h
  obtain ⟨hR, hc⟩ := okC_iff.1 h
  have hw : ((r.w.toNat : Nat) : Int) = r.w := by omega
  let L : List (List UInt8) := (List.range r.h.toNat).map fun i => rowLn (f i) r.w.toNat
  have hLlen : L.length = r.h.toNat := by simp [L]
  have hLat : ∀ i, i < r.h.toNat → L.getD i [] = rowLn (f i) r.w.toNat := fun i hi => by
    show ((List.range r.h.toNat).map _).getD i [] = _
    rw [List.getD_eq_getElem?_getD, List.getElem?_map, List.getElem?_range hi]; rfl
  have hLx : ∀ x ∈ L, ∃ i, i < r.h.toNat ∧ x = rowLn (f i) r.w.toNat := fun x hx => by
    obtain ⟨i, hi, e⟩ := List.mem_map.1 hx
    exact ⟨i, List.mem_range.1 hi, e.symm⟩
  have hcol : ∀ i, i < L.length → f i = ((colN (L.getD i []) r.w.toNat : Nat) : Int) := fun i hi => by
    rw [hLlen] at hi
    obtain ⟨x, hx⟩ := eq_toNat (hf.t i).1
    have := (hf.t i).2
    rw [hLat i hi, hx, rowLn_col (by omega) (by omega) (by rw [hw, ← hx]; exact (hc i (by omega)).1)]
  have hlen : ∀ x ∈ L, x.length = r.w.toNat := fun x hx => by
    obtain ⟨i, _, e⟩ := hLx x hx
    rw [e, rowLn_len]
  have hrb : ∀ x ∈ L, rbB x = true := fun x hx => by
    obtain ⟨i, _, e⟩ := hLx x hx
    rw [e]; exact rowLn_rb _ _
  have ht := txt_bs (w := r.w.toNat) (by omega) hlen hcol L.length (Nat.le_refl _)
  have hn : (L.take L.length).map nrm = L := by
    rw [List.take_length]
    have : L.map nrm = L.map id := List.map_congr_left fun x hx => nrm_eq.2 (hrb x hx)
    rw [this, List.map_id]
  rw [hn, hLlen] at ht
  have hsz := txt_size f r.w.toNat r.h.toNat
  have hcT : colText r f = bsOf (catL 10 L) := by unfold colText; rw [if_pos h, ht]
  have hll : (catL 10 L).length = r.h.toNat * (r.w.toNat + 1) := by
    rw [← hsz, ht, bs_size]
  have hmul : r.h.toNat * (r.w.toNat + 1) ≤ 8 * 9 := Nat.mul_le_mul (by omega) (by omega)
  have hno10 : ∀ x ∈ L, ∀ b ∈ x, b ≠ (10 : UInt8) := fun x hx b hb e => by
    have := hrb x hx
    unfold rbB at this
    rw [List.all_eq_true] at this
    have := this b hb
    rw [e] at this; cases this
  have hs := spl_catL hno10
  have hsuf : Lib.hasSuffix (catL 10 L) [10] = true := spl_end hs (by intro e; rw [e] at hLlen; simp at hLlen; omega)
  have hrc : rcL (catL 10 L) = L := by
    have := rc_lines hsuf
    rw [hs] at this
    exact (List.append_cancel_right this).symm
  have hok : rcOk r (catL 10 L) = true := rcOk_yes hsuf (by rw [hrc, hLlen]; omega) fun i hi => by
    rw [hrc] at hi ⊢
    have hm : L.getD i [] ∈ L := by rw [List.getD_eq_getElem?_getD, List.getElem?_eq_getElem hi]; exact List.getElem_mem hi
    unfold lnB
    rw [hlen _ hm, hrb _ hm, hw]; simp
  refine ⟨catL 10 L, hcT, by omega, ?_⟩
  rw [rcV_yes hR hok, hrc]
  have : row8 (fun i => ((colN (L.getD i []) r.w.toNat : Nat) : Int)) = row8 f := by
    unfold row8
    refine tab_congr fun i hi => ?_
    show Value.int .u8 ((colN (L.getD i []) r.w.toNat : Nat) : Int) = _
    by_cases hi2 : i < L.length
    · rw [← hcol i hi2]
    · have h0 : f i = 0 := by
        rcases (hc i hi).2 with h2 | h2
        · omega
        · exact h2
      rw [List.getD_eq_getElem?_getD, List.getElem?_eq_none (by omega)]
      show Value.int .u8 ((colN [] r.w.toNat : Nat) : Int) = _
      rw [colN_nil, h0]; rfl
  unfold row8D
  rw [this]
/-! The word that is drawn. -/
def wdS (xs : List Int) : Nat → Sc
  | 0 => pkS xs 5 s0
  | i + 1 => pkS xs 2 (wdS xs i)
def wdJ (xs : List Int) : Nat → Nat
  | 0 => 0
  | i + 1 => 2 * wdJ xs i + (if pkV xs 2 (wdS xs i) = 0 then 1 else 0)
def wdN (xs : List Int) : Nat := (1 + pkV xs 5 s0).toNat
def wdR (xs : List Int) : ByteArray := word (wdN xs) (wdJ xs (wdN xs))
theorem wdJ_lt (xs : List Int) : ∀ i, wdJ xs i < 2 ^ i
  | 0 => by simp [wdJ]
  | i + 1 => by
    have := wdJ_lt xs i
    rw [wdJ, Nat.pow_succ]
    split <;> omega
theorem wd_step (xs : List Int) (i : Nat) : word (i + 1) (wdJ xs (i + 1)) = word i (wdJ xs i) ++ (if pkV xs 2 (wdS xs i) = 0 then letR else letB) := by
  rw [word, wdJ]
  by_cases h : pkV xs 2 (wdS xs i) = 0
  · rw [if_pos h, if_pos h, if_pos (by omega), show (2 * wdJ xs i + 1) / 2 = wdJ xs i by omega]
  · rw [if_neg h, if_neg h, if_neg (by omega), show (2 * wdJ xs i + 0) / 2 = wdJ xs i by omega]
theorem wdN_in {xs : List Int} (h : Bytes xs) : 1 ≤ wdN xs ∧ wdN xs ≤ 5 := by
  have := pkV_in h (n := 5) (by omega) s0
  unfold wdN; omega
theorem wdS_at (xs : List Int) : ∀ i, (wdS xs i).1 ≤ i + 1
  | 0 => by have := pkS_le xs 5 s0; exact this
  | i + 1 => by
    have := wdS_at xs i
    have h2 := pkS_le xs 2 (wdS xs i)
    rw [wdS]; omega
end Go.V
namespace Go.Proofs.YtdbhfobnmlogeaaDoor
open Go.V
theorem text_satM (xs : List Int) (hx : Bytes xs) (hl : xs.length ≤ 3000) (σ : Sc) (hσ : σ.1 ≤ 1000000) :
    SatM Tryd.prog 98 [.ptr (lentId 0) 0, .slc true 1 (lentId 1) 0 2] [srcD xs σ, .v (.agg ⟨[.string ⟨#[114]⟩, .string ⟨#[98]⟩]⟩)] (.v (.string (if pkV xs 2 σ = 0 then letR else letB))) [some (srcD xs (pkS xs 2 σ)), some (.v (.agg ⟨[.string ⟨#[114]⟩, .string ⟨#[98]⟩]⟩))] [] := by
  have hp := pkV_in hx (n := 2) (by omega) σ
  have hpk := pick_satM xs hx hl 2 (by omega) σ hσ
  refine satM_of_wp hMix tOk Tryd.func98 rfl rfl Tryd.ntmps98 rfl rfl Tryd.results98 (by kernel_rfl) ?_
  rcases (show pkV xs 2 σ = 0 ∨ pkV xs 2 σ = 1 by omega) with h | h
  · rw [h] at hpk ⊢
    conv => whnf
    repeat (first | (refine go_F10 ?_; conv => whnf) | (refine lk_F10 ?_; conv => whnf))
    first | refine ⟨[(lentId 0)], _, _, _, _, _, _, _, _, rfl, rfl, rfl, rfl, (sm_F10 (hpk)), rfl, rfl, rfl, rfl, ?_⟩ | refine .inr ⟨[(lentId 0)], _, _, _, _, _, _, _, _, rfl, rfl, rfl, rfl, (sm_F10 (hpk)), rfl, rfl, rfl, rfl, ?_⟩ | refine ⟨[(lentId 0)], _, _, _, _, _, rfl, rfl, rfl, rfl, (sm_F10 (hpk)), rfl, rfl, ?_⟩
    conv => whnf
    repeat (first | (refine go_F10 ?_; conv => whnf) | (refine lk_F10 ?_; conv => whnf))
    refine ⟨[], _, rfl, rfl, rfl, ?_, ?_, rfl⟩
    · rfl
    ((repeat' (first | exact trivial | apply And.intro)) <;> (refine ⟨_, rfl, ?_⟩; first | rfl | (rfl)))
  · rw [h] at hpk ⊢
    conv => whnf
    repeat (first | (refine go_F10 ?_; conv => whnf) | (refine lk_F10 ?_; conv => whnf))
    first | refine ⟨[(lentId 0)], _, _, _, _, _, _, _, _, rfl, rfl, rfl, rfl, (sm_F10 (hpk)), rfl, rfl, rfl, rfl, ?_⟩ | refine .inr ⟨[(lentId 0)], _, _, _, _, _, _, _, _, rfl, rfl, rfl, rfl, (sm_F10 (hpk)), rfl, rfl, rfl, rfl, ?_⟩ | refine ⟨[(lentId 0)], _, _, _, _, _, rfl, rfl, rfl, rfl, (sm_F10 (hpk)), rfl, rfl, ?_⟩
    conv => whnf
    repeat (first | (refine go_F10 ?_; conv => whnf) | (refine lk_F10 ?_; conv => whnf))
    refine ⟨[], _, rfl, rfl, rfl, ?_, ?_, rfl⟩
    · rfl
    ((repeat' (first | exact trivial | apply And.intro)) <;> (refine ⟨_, rfl, ?_⟩; first | rfl | (rfl)))
theorem a2Word_sat (xs : List Int) (hx : Bytes xs) (hl : xs.length ≤ 3000) (m : Bool) : Sat Tryd.prog 38 [u8D m xs] (.v (.string (wdR xs))) := by
  have hN := wdN_in hx
  have hp := pkV_in hx (n := 5) (by omega) s0
  have hN2 : ((wdN xs : Nat) : Int) = 1 + pkV xs 5 s0 := by unfold wdN; omega
  have hat := wdS_at xs
  refine sat_of_wp hMix tOk Tryd.func38 rfl rfl Tryd.ntmps38 rfl rfl Tryd.results38 (by kernel_rfl) ?_
  conv => whnf
  repeat (first | (refine go_F10 ?_; conv => whnf) | (refine lk_F10 ?_; conv => whnf))
  first | refine ⟨[], _, _, _, _, _, _, _, _, rfl, rfl, rfl, rfl, (sm_F10 (l00From_satM xs)), rfl, rfl, rfl, rfl, ?_⟩ | refine .inr ⟨[], _, _, _, _, _, _, _, _, rfl, rfl, rfl, rfl, (sm_F10 (l00From_satM xs)), rfl, rfl, rfl, rfl, ?_⟩ | refine ⟨[], _, _, _, _, _, rfl, rfl, rfl, rfl, (sm_F10 (l00From_satM xs)), rfl, rfl, ?_⟩
  conv => whnf
  repeat (first | (refine go_F10 ?_; conv => whnf) | (refine lk_F10 ?_; conv => whnf))
  first | refine ⟨[(7, 0, 0)], _, _, _, _, _, _, _, _, rfl, rfl, rfl, rfl, (sm_F10 (pick_satM xs hx hl 5 (by omega) s0 (by show 0 ≤ 1000000; omega))), rfl, rfl, rfl, rfl, ?_⟩ | refine .inr ⟨[(7, 0, 0)], _, _, _, _, _, _, _, _, rfl, rfl, rfl, rfl, (sm_F10 (pick_satM xs hx hl 5 (by omega) s0 (by show 0 ≤ 1000000; omega))), rfl, rfl, rfl, rfl, ?_⟩ | refine ⟨[(7, 0, 0)], _, _, _, _, _, rfl, rfl, rfl, rfl, (sm_F10 (pick_satM xs hx hl 5 (by omega) s0 (by show 0 ≤ 1000000; omega))), rfl, rfl, ?_⟩
  conv => whnf
  repeat (first | (refine go_F10 ?_; conv => whnf) | (refine lk_F10 ?_; conv => whnf))
  rw [show IntKind.i64.wrap (1 + pkV xs 5 s0) = ((wdN xs : Nat) : Int) by rw [w64 (by omega) (by omega), hN2]]
  refine loop_rule (α := Nat) (fun i => [(3, .ptr (7, 0, 0) 0), (4, .v (.string (word i (wdJ xs i)))), (5, .v (.int .i64 ((wdN xs : Int) - i)))]) (fun i => [((7, 0, 0), srcD xs (wdS xs i))]) (fun i => i ≤ wdN xs) (fun i => wdN xs - i) (0) ?_ (sim_of (rn := [((7, 0, 0), (7, 0, 0))]) rfl ?_ ?_) ?_
  · exact okt_F10
  · exact hold_F10
  · ((repeat' (first | exact trivial | apply And.intro)) <;> ((first | refine ⟨_, _, rfl, rfl, ?_⟩ ); rfl))
  intro i hi
  conv => whnf
  repeat (first | (refine go_F10 ?_; conv => whnf) | (refine lk_F10 ?_; conv => whnf))
  cases h1 : decide ((wdN xs : Int) - i > 0)
  · have hiN : i = wdN xs := by simp at h1; omega
    subst hiN
    conv => whnf
    repeat (first | (refine go_F10 ?_; conv => whnf) | (refine lk_F10 ?_; conv => whnf))
    first | refine ⟨rfl, _, rfl, ?_⟩ | refine ⟨_, rfl, ?_⟩
    rfl
  have hiN : i < wdN xs := by simp at h1; omega
  have hst := wd_step xs i
  have hati := hat i
  have hls : (if pkV xs 2 (wdS xs i) = 0 then letR else letB).size = 1 := by split <;> rfl
  have hws := word_size i (wdJ xs i)
  conv => whnf
  repeat (first | (refine go_F10 ?_; conv => whnf) | (refine lk_F10 ?_; conv => whnf))
  have ht := text_satM xs hx hl (wdS xs i) (by omega)
  generalize hL : (if pkV xs 2 (wdS xs i) = 0 then letR else letB) = L at *
  first | refine ⟨[(7, 0, 0), (17, 1, 0)], _, _, _, _, _, _, _, _, rfl, rfl, rfl, rfl, (sm_F10 (ht)), rfl, rfl, rfl, rfl, ?_⟩ | refine .inr ⟨[(7, 0, 0), (17, 1, 0)], _, _, _, _, _, _, _, _, rfl, rfl, rfl, rfl, (sm_F10 (ht)), rfl, rfl, rfl, rfl, ?_⟩ | refine ⟨[(7, 0, 0), (17, 1, 0)], _, _, _, _, _, rfl, rfl, rfl, rfl, (sm_F10 (ht)), rfl, rfl, ?_⟩
  conv => whnf
  repeat (first | (refine go_F10 ?_; conv => whnf) | (refine lk_F10 ?_; conv => whnf))
  refine ⟨i + 1, ?_, ?_, sim_of (rn := [((7, 0, 0), (7, 0, 0))]) rfl ?_ ?_⟩
  · (dsimp only; omega)
  · exact okt_F10
  · ((repeat' (first | exact trivial | apply And.intro)) <;> (first | rfl | (exact vstrS hst) | exact leaf_F10))
  · ((repeat' (first | exact trivial | apply And.intro)) <;> ((first | refine ⟨_, _, rfl, rfl, ?_⟩ ); rfl))
end Go.Proofs.YtdbhfobnmlogeaaDoor
