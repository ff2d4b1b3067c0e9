import Derived.Test.YtejncabmppobfaaP1
import Derived.Test.YtejncabmppobfaaW9
set_option linter.unusedVariables false
set_option linter.unusedSimpArgs false
/- Contracts: rain that runs down a roof, both sides. -/
set_option linter.unusedVariables false
set_option linter.unusedSimpArgs false
namespace Go.V
/- Words for the walks of this text: their default arguments are tried where they are used. -/
theorem go_D8 {P Q : Prop} (k : Q) (h : P := by first | exact Nat.le_of_ble_eq_true rfl | exact mapOkP | exact rfl | decide | omega | (simp [splice]; done) | (constructor <;> omega) | (simp [splice]; omega)) : P ∧ Q := ⟨h, k⟩
theorem lk_D8 {α : Type} {o : Option α} {K : α → Prop} {x : α} (k : K x) (h : o = some x := by first | exact raiA (by omega) | exact raiA' (by omega) | exact dripA (by omega) (by omega) | exact roofN (by omega) (by omega) | exact gridN (by omega) (by omega) | exact flowG | exact flowM | exact intA (by omega) | exact intA' (by omega)) : optK o K := optK_of h k
theorem sc_D8 {P : Program} {g : FuncId} {args args' : List D} {res : D} (h : Sat P g args res) (e : args' = args := by repeat (first | rfl | exact vfull (by first | (simp [splice]; done) | (simp [splice]; omega)) | exact rfull (by first | (simp [splice]; done) | (simp [splice]; omega)) | exact vplace (by simp; done) (by omega) | exact vrow (by simp; done) (by omega) | exact vtiles (by simp) | exact vsplice (by simp) (by simp) | refine ceq ?_ ?_ | refine Eq.trans (vsplice (by first | (simp; done) | (simp; omega)) (by first | (simp; done) | (simp; omega))) ?_)) : Sat P g args' res := Sat.of_eq h e
theorem leaf_D8 {P : Prop} (h : P := by first | rfl | exact succ8 (by omega) | exact succ64 (by omega) | exact CapOk.fn (by assumption) _ _ | exact vintS (by omega) | exact vintS (by rw [w64 (by omega) (by omega)]; omega) | exact vintS (by rw [w8 (by omega) (by omega)]; omega) | exact vslcS (by omega) | exact vslcS (by simp)) : P := h
theorem hold_D8 {P : Prop} (h : P := by (repeat' (first | exact trivial | apply And.intro)) <;> (first | rfl | exact succ8 (by omega) | exact succ64 (by omega) | exact CapOk.fn (by assumption) _ _ | exact vintS (by omega) | exact vintS (by rw [w64 (by omega) (by omega)]; omega) | exact vintS (by rw [w8 (by omega) (by omega)]; omega) | exact vslcS (by omega) | exact vslcS (by simp))) : P := h
theorem okt_D8 {P : Prop} (h : P := by first | omega | (dsimp only; omega) | ((repeat' apply And.intro) <;> omega) | (dsimp only; (repeat' apply And.intro) <;> omega) | trivial) : P := h
end Go.V
namespace Go.V
theorem congrArg2 {α β γ : Type} (f : α → β → γ) {a a' : α} {b b' : β} (h : a = a') (h' : b = b') : f a b = f a' b' := by rw [h, h']
theorem two136 {x y : List Value} (hx : x.length = 136) (hy : y.length = 136) : y = List.take 136 (List.drop 0 (splice x 0 (List.take 136 (List.drop 0 y)))) := by
  rw [List.drop_zero, List.drop_zero, take_full (l := y) (by omega), splice_all (by omega), take_full (by omega)]
end Go.V
namespace Go.Proofs.Ytejncabmppobfaa
open Go.V
section
variable (r : Roof) (hr : r.In) (hb : (1 ≤ r.w ∧ r.w ≤ 8) ∧ (1 ≤ r.h ∧ r.h ≤ 8) ∧ r.s ≤ 1)
include hr hb
theorem sh_eq {i : Nat} (hi : i ≤ 1000) : (IntKind.i64.wrap ((i : Int) + IntKind.i64.wrap r.s)).tmod 2 = ((shN r i : Nat) : Int) := by
  have hs := hr.s
  rw [w64 (n := r.s) (by omega) (by omega), w64 (by omega) (by omega)]
  unfold shN
  have : (i : Int) + r.s = ((i + r.s.toNat : Nat) : Int) := by omega
  rw [this]
  rfl
theorem l01By_sat (i : Nat) (hi : i ≤ 1000) : Sat Try.prog 126 [.ref false (roofD r) 0, .v (.int .i64 i)] (.v (.int .i64 (shN r i : Nat))) := by
  refine sat_of_wp hMix tOk Try.func126 rfl rfl Try.ntmps126 rfl rfl Try.results126 (by kernel_rfl) ?_
  conv => whnf
  repeat (first | (refine go_D8 ?_; conv => whnf) | (refine lk_D8 ?_; conv => whnf))
  rw [sh_eq r hr hb hi]
  first | refine ⟨rfl, _, rfl, ?_⟩ | refine ⟨_, rfl, ?_⟩
  rfl
theorem shift_sat (i : Nat) (hi : i ≤ 1000) : Sat Try.prog 133 [roofD r, .v (.int .i64 i)] (.v (.int .i64 (shN r i : Nat))) := by
  refine sat_of_wp hMix tOk Try.func133 rfl rfl Try.ntmps133 rfl rfl Try.results133 (by kernel_rfl) ?_
  conv => whnf
  repeat (first | (refine go_D8 ?_; conv => whnf) | (refine lk_D8 ?_; conv => whnf))
  rw [sh_eq r hr hb hi]
  first | refine ⟨rfl, _, rfl, ?_⟩ | refine ⟨_, rfl, ?_⟩
  rfl
theorem l01Cells_sat : Sat Try.prog 85 [.ref false (roofD r) 0] (.v (.int .i64 (2 * r.w + 1))) := by
  have hw := hr.w
  refine sat_of_wp hMix tOk Try.func85 rfl rfl Try.ntmps85 rfl rfl Try.results85 (by kernel_rfl) ?_
  conv => whnf
  repeat (first | (refine go_D8 ?_; conv => whnf) | (refine lk_D8 ?_; conv => whnf))
  rw [show IntKind.i64.wrap r.w = r.w from w64 (by omega) (by omega), show IntKind.i64.wrap (2 * r.w) = 2 * r.w from w64 (by omega) (by omega), show IntKind.i64.wrap (2 * r.w + 1) = 2 * r.w + 1 from w64 (by omega) (by omega)]
  first | refine ⟨rfl, _, rfl, ?_⟩ | refine ⟨_, rfl, ?_⟩
  rfl
theorem cells_sat : Sat Try.prog 92 [roofD r] (.v (.int .i64 (2 * r.w + 1))) := by
  have hw := hr.w
  refine sat_of_wp hMix tOk Try.func92 rfl rfl Try.ntmps92 rfl rfl Try.results92 (by kernel_rfl) ?_
  conv => whnf
  repeat (first | (refine go_D8 ?_; conv => whnf) | (refine lk_D8 ?_; conv => whnf))
  rw [show IntKind.i64.wrap r.w = r.w from w64 (by omega) (by omega), show IntKind.i64.wrap (2 * r.w) = 2 * r.w from w64 (by omega) (by omega), show IntKind.i64.wrap (2 * r.w + 1) = 2 * r.w + 1 from w64 (by omega) (by omega)]
  first | refine ⟨rfl, _, rfl, ?_⟩ | refine ⟨_, rfl, ?_⟩
  rfl
theorem l01Tile_sat (i c : Nat) (hi : i ≤ 1000) (hc : c < 17) : Sat Try.prog 86 [.ref false (roofD r) 0, .v (.int .i64 i), .v (.int .i64 c)] (.v (.int .i64 (tlI r i c))) := by
  have hw := hr.w
  have hsh : shN r i < 2 := Nat.mod_lt _ (by omega)
  have ew : IntKind.i64.wrap r.w = r.w := w64 (by omega) (by omega)
  refine sat_of_wp hMix tOk Try.func86 rfl rfl Try.ntmps86 rfl rfl Try.results86 (by kernel_rfl) ?_
  conv => whnf
  repeat (first | (refine go_D8 ?_; conv => whnf) | (refine lk_D8 ?_; conv => whnf))
  first | refine ⟨_, _, rfl, sc_D8 (l01By_sat r hr hb i hi), ?_⟩ | refine .inl ⟨_, _, rfl, sc_D8 (l01By_sat r hr hb i hi), ?_⟩
  conv => whnf
  repeat (first | (refine go_D8 ?_; conv => whnf) | (refine lk_D8 ?_; conv => whnf))
  generalize hse : shN r i = s at *
  have e1 : IntKind.i64.wrap ((c : Int) - (s : Int)) = (c : Int) - s := w64 (by omega) (by omega)
  rw [e1]
  cases h1 : decide ((c : Int) - (s : Int) < 0)
  case true =>
    rw [show tlI r i c = -1 by unfold tlI; rw [hse, if_pos (by simp at h1; omega)]]
    conv => whnf
    repeat (first | (refine go_D8 ?_; conv => whnf) | (refine lk_D8 ?_; conv => whnf))
    first | refine ⟨rfl, _, rfl, ?_⟩ | refine ⟨_, rfl, ?_⟩
    rfl
  have hcs : s ≤ c := by simp at h1; omega
  have e2 : IntKind.i64.wrap (((c : Int) - (s : Int)).tdiv 2) = (((c - s) / 2 : Nat) : Int) := by
    rw [show (c : Int) - s = ((c - s : Nat) : Int) by omega]
    rw [show (((c - s : Nat) : Int)).tdiv 2 = (((c - s) / 2 : Nat) : Int) from rfl, w64 (by omega) (by omega)]
  conv => whnf
  repeat (first | (refine go_D8 ?_; conv => whnf) | (refine lk_D8 ?_; conv => whnf))
  rw [e2, ew]
  cases h2 : decide ((((c - s) / 2 : Nat) : Int) ≥ r.w)
  case true =>
    rw [show tlI r i c = -1 by unfold tlI; rw [hse, if_neg (by omega), if_neg (by simp at h2; omega)]]
    conv => whnf
    repeat (first | (refine go_D8 ?_; conv => whnf) | (refine lk_D8 ?_; conv => whnf))
    first | refine ⟨rfl, _, rfl, ?_⟩ | refine ⟨_, rfl, ?_⟩
    rfl
  rw [show tlI r i c = (((c - s) / 2 : Nat) : Int) by unfold tlI; rw [hse, if_neg (by omega), if_pos (by simp at h2; omega)]]
  conv => whnf
  repeat (first | (refine go_D8 ?_; conv => whnf) | (refine lk_D8 ?_; conv => whnf))
  first | refine ⟨rfl, _, rfl, ?_⟩ | refine ⟨_, rfl, ?_⟩
  skip
  rw [e2]; rfl
theorem tileAt_sat (i c : Nat) (hi : i ≤ 1000) (hc : c < 17) : Sat Try.prog 93 [roofD r, .v (.int .i64 i), .v (.int .i64 c)] (.v (.int .i64 (tlI r i c))) := by
  have hw := hr.w
  have hsh : shN r i < 2 := Nat.mod_lt _ (by omega)
  have ew : IntKind.i64.wrap r.w = r.w := w64 (by omega) (by omega)
  have ew2 : IntKind.i64.wrap (2 * r.w) = 2 * r.w := w64 (by omega) (by omega)
  have ew3 : IntKind.i64.wrap (2 * r.w - 1) = 2 * r.w - 1 := w64 (by omega) (by omega)
  refine sat_of_wp hMix tOk Try.func93 rfl rfl Try.ntmps93 rfl rfl Try.results93 (by kernel_rfl) ?_
  conv => whnf
  repeat (first | (refine go_D8 ?_; conv => whnf) | (refine lk_D8 ?_; conv => whnf))
  first | refine ⟨_, _, rfl, sc_D8 (shift_sat r hr hb i hi), ?_⟩ | refine .inl ⟨_, _, rfl, sc_D8 (shift_sat r hr hb i hi), ?_⟩
  conv => whnf
  repeat (first | (refine go_D8 ?_; conv => whnf) | (refine lk_D8 ?_; conv => whnf))
  generalize hse : shN r i = s at *
  have e1 : IntKind.i64.wrap ((c : Int) - (s : Int)) = (c : Int) - s := w64 (by omega) (by omega)
  rw [e1, ew, ew2, ew3]
  first | refine ⟨_, _, rfl, sc_D8 (withinInt_sat _ _ _), ?_⟩ | refine .inl ⟨_, _, rfl, sc_D8 (withinInt_sat _ _ _), ?_⟩
  conv => whnf
  repeat (first | (refine go_D8 ?_; conv => whnf) | (refine lk_D8 ?_; conv => whnf))
  cases h1 : (decide (0 ≤ (c : Int) - (s : Int)) && decide ((c : Int) - (s : Int) ≤ 2 * r.w - 1))
  · have ht : tlI r i c = -1 := by
      unfold tlI
      rw [hse]
      by_cases hcs : c < s
      · rw [if_pos hcs]
      · rw [if_neg hcs, if_neg (by simp at h1; omega)]
    rw [ht]
    conv => whnf
    repeat (first | (refine go_D8 ?_; conv => whnf) | (refine lk_D8 ?_; conv => whnf))
    first | refine ⟨rfl, _, rfl, ?_⟩ | refine ⟨_, rfl, ?_⟩
    rfl
  have hcs : s ≤ c := by simp at h1; omega
  have e2 : IntKind.i64.wrap (((c : Int) - (s : Int)).tdiv 2) = (((c - s) / 2 : Nat) : Int) := by
    rw [show (c : Int) - s = ((c - s : Nat) : Int) by omega]
    rw [show (((c - s : Nat) : Int)).tdiv 2 = (((c - s) / 2 : Nat) : Int) from rfl, w64 (by omega) (by omega)]
  rw [show tlI r i c = (((c - s) / 2 : Nat) : Int) by unfold tlI; rw [hse, if_neg (by omega), if_pos (by simp at h1; omega)]]
  conv => whnf
  repeat (first | (refine go_D8 ?_; conv => whnf) | (refine lk_D8 ?_; conv => whnf))
  first | refine ⟨rfl, _, rfl, ?_⟩ | refine ⟨_, rfl, ?_⟩
  skip
  rw [e2]; rfl
theorem l02Over_sat (i c : Nat) (hi : i < 8) (hc : c < 17) : Sat Try.prog 148 [.ref false (roofD r) 0, .v (.int .i64 i), .v (.int .i64 c)] (.v (.int .i64 (ovI r i c))) := by
  have htl := tlI_range r i c
  refine sat_of_wp hMix tOk Try.func148 rfl rfl Try.ntmps148 rfl rfl Try.results148 (by kernel_rfl) ?_
  conv => whnf
  repeat (first | (refine go_D8 ?_; conv => whnf) | (refine lk_D8 ?_; conv => whnf))
  first | refine ⟨_, _, rfl, sc_D8 (l01Tile_sat r hr hb i c (by omega) hc), ?_⟩ | refine .inl ⟨_, _, rfl, sc_D8 (l01Tile_sat r hr hb i c (by omega) hc), ?_⟩
  conv => whnf
  repeat (first | (refine go_D8 ?_; conv => whnf) | (refine lk_D8 ?_; conv => whnf))
  cases h1 : decide (tlI r i c < 0)
  case true =>
    rw [show ovI r i c = 0 by unfold ovI; rw [if_pos (by simpa using h1)]]
    conv => whnf
    repeat (first | (refine go_D8 ?_; conv => whnf) | (refine lk_D8 ?_; conv => whnf))
    first | refine ⟨rfl, _, rfl, ?_⟩ | refine ⟨_, rfl, ?_⟩
    rfl
  have h1' : ¬ tlI r i c < 0 := by simpa using h1
  have ho : ovI r i c = r.t i (tlI r i c).toNat := by unfold ovI; rw [if_neg h1']
  obtain ⟨k, hk⟩ := eq_toNat (x := tlI r i c) (by omega)
  rw [hk] at htl ho ⊢
  rw [Int.toNat_natCast] at ho
  have ht := hr.t i k
  rw [ho]
  conv => whnf
  repeat (first | (refine go_D8 ?_; conv => whnf) | (refine lk_D8 ?_; conv => whnf))
  first | refine ⟨rfl, _, rfl, ?_⟩ | refine ⟨_, rfl, ?_⟩
  skip
  rw [show IntKind.i64.wrap (r.t i k) = r.t i k from w64 (by omega) (by omega)]; rfl
theorem covering_sat (i c : Nat) (hi : i < 8) (hc : c < 17) : Sat Try.prog 147 [roofD r, .v (.int .i64 i), .v (.int .i64 c)] (.v (.int .u8 (ovI r i c))) := by
  have htl := tlI_range r i c
  refine sat_of_wp hMix tOk Try.func147 rfl rfl Try.ntmps147 rfl rfl Try.results147 (by kernel_rfl) ?_
  conv => whnf
  repeat (first | (refine go_D8 ?_; conv => whnf) | (refine lk_D8 ?_; conv => whnf))
  cases h0 : decide ((i : Int) < 0)
  case true => simp at h0; omega
  conv => whnf
  repeat (first | (refine go_D8 ?_; conv => whnf) | (refine lk_D8 ?_; conv => whnf))
  first | refine ⟨_, _, rfl, sc_D8 (tileAt_sat r hr hb i c (by omega) hc), ?_⟩ | refine .inl ⟨_, _, rfl, sc_D8 (tileAt_sat r hr hb i c (by omega) hc), ?_⟩
  conv => whnf
  repeat (first | (refine go_D8 ?_; conv => whnf) | (refine lk_D8 ?_; conv => whnf))
  cases h1 : (tlI r i c == -1)
  case true =>
    rw [show ovI r i c = 0 by unfold ovI; rw [if_pos (by simp at h1; omega)]]
    conv => whnf
    repeat (first | (refine go_D8 ?_; conv => whnf) | (refine lk_D8 ?_; conv => whnf))
    first | refine ⟨rfl, _, rfl, ?_⟩ | refine ⟨_, rfl, ?_⟩
    rfl
  have h1' : ¬ tlI r i c < 0 := by
    have : ¬ tlI r i c = -1 := by simpa using h1
    omega
  have ho : ovI r i c = r.t i (tlI r i c).toNat := by unfold ovI; rw [if_neg h1']
  obtain ⟨k, hk⟩ := eq_toNat (x := tlI r i c) (by omega)
  rw [hk] at htl ho ⊢
  rw [Int.toNat_natCast] at ho
  rw [ho]
  conv => whnf
  repeat (first | (refine go_D8 ?_; conv => whnf) | (refine lk_D8 ?_; conv => whnf))
  first | refine ⟨rfl, _, rfl, ?_⟩ | refine ⟨_, rfl, ?_⟩
  rfl
theorem l02Drip_sat (i c : Nat) (hi : i < 8) (hc : c < 17) (n : Int) (hn : 0 ≤ n ∧ n ≤ 1000) : Sat Try.prog 128 [.ref false (roofD r) 0, .v (.int .i64 i), .v (.int .i64 c), .v (.int .i64 n)] (.v (.int .i64 (drI r i c n))) := by
  have e1 : IntKind.i64.wrap (n + 1) = n + 1 := w64 (by omega) (by omega)
  have e2 : IntKind.i64.wrap (n + 2) = n + 2 := w64 (by omega) (by omega)
  have hd := drI_in r i c hn.1
  refine sat_of_wp hMix tOk Try.func128 rfl rfl Try.ntmps128 rfl rfl Try.results128 (by kernel_rfl) ?_
  conv => whnf
  repeat (first | (refine go_D8 ?_; conv => whnf) | (refine lk_D8 ?_; conv => whnf))
  first | refine ⟨_, _, rfl, sc_D8 (l02Over_sat r hr hb i c hi hc), ?_⟩ | refine .inl ⟨_, _, rfl, sc_D8 (l02Over_sat r hr hb i c hi hc), ?_⟩
  conv => whnf
  repeat (first | (refine go_D8 ?_; conv => whnf) | (refine lk_D8 ?_; conv => whnf))
  cases h1 : (ovI r i c == 1)
  case true =>
    have h1' : ovI r i c = 1 := by simpa using h1
    have hq : drI r i c n = (n + 1).tdiv 2 := by unfold drI; rw [if_pos h1']
    conv => whnf
    repeat (first | (refine go_D8 ?_; conv => whnf) | (refine lk_D8 ?_; conv => whnf))
    first | refine ⟨rfl, _, rfl, ?_⟩ | refine ⟨_, rfl, ?_⟩
    skip
    rw [e1, ← hq, show IntKind.i64.wrap (drI r i c n) = drI r i c n from w64 (by omega) (by omega)]; rfl
  have h1' : ¬ ovI r i c = 1 := by simpa using h1
  conv => whnf
  repeat (first | (refine go_D8 ?_; conv => whnf) | (refine lk_D8 ?_; conv => whnf))
  cases h2 : (ovI r i c == 2)
  case true =>
    have h2' : ovI r i c = 2 := by simpa using h2
    have hq : drI r i c n = (n + 2).tdiv 3 := by unfold drI; rw [if_neg h1', if_pos h2']
    conv => whnf
    repeat (first | (refine go_D8 ?_; conv => whnf) | (refine lk_D8 ?_; conv => whnf))
    first | refine ⟨rfl, _, rfl, ?_⟩ | refine ⟨_, rfl, ?_⟩
    skip
    rw [e2, ← hq, show IntKind.i64.wrap (drI r i c n) = drI r i c n from w64 (by omega) (by omega)]; rfl
  have h2' : ¬ ovI r i c = 2 := by simpa using h2
  conv => whnf
  repeat (first | (refine go_D8 ?_; conv => whnf) | (refine lk_D8 ?_; conv => whnf))
  cases h3 : (ovI r i c == 3)
  · have h3' : ¬ ovI r i c = 3 := by simpa using h3
    rw [show drI r i c n = 0 by unfold drI; rw [if_neg h1', if_neg h2', if_neg h3']]
    conv => whnf
    repeat (first | (refine go_D8 ?_; conv => whnf) | (refine lk_D8 ?_; conv => whnf))
    first | refine ⟨rfl, _, rfl, ?_⟩ | refine ⟨_, rfl, ?_⟩
    rfl
  have h3' : ovI r i c = 3 := by simpa using h3
  have hq : drI r i c n = if 0 < i ∧ ovI r (i - 1) c = 2 then 0 else n := by unfold drI; rw [if_neg h1', if_neg h2', if_pos h3']
  rw [hq]
  conv => whnf
  repeat (first | (refine go_D8 ?_; conv => whnf) | (refine lk_D8 ?_; conv => whnf))
  cases h4 : decide ((i : Int) > 0)
  · rw [if_neg (by simp at h4; omega)]
    conv => whnf
    repeat (first | (refine go_D8 ?_; conv => whnf) | (refine lk_D8 ?_; conv => whnf))
    first | refine ⟨rfl, _, rfl, ?_⟩ | refine ⟨_, rfl, ?_⟩
    rfl
  have hi0 : 0 < i := by simp at h4; omega
  have ei : IntKind.i64.wrap ((i : Int) - 1) = ((i - 1 : Nat) : Int) := by rw [w64 (by omega) (by omega)]; omega
  conv => whnf
  repeat (first | (refine go_D8 ?_; conv => whnf) | (refine lk_D8 ?_; conv => whnf))
  rw [ei]
  first | refine ⟨_, _, rfl, sc_D8 (l02Over_sat r hr hb (i - 1) c (by omega) hc), ?_⟩ | refine .inl ⟨_, _, rfl, sc_D8 (l02Over_sat r hr hb (i - 1) c (by omega) hc), ?_⟩
  conv => whnf
  repeat (first | (refine go_D8 ?_; conv => whnf) | (refine lk_D8 ?_; conv => whnf))
  cases h5 : (ovI r (i - 1) c == 2)
  · rw [if_neg (by simp at h5; omega)]
    conv => whnf
    repeat (first | (refine go_D8 ?_; conv => whnf) | (refine lk_D8 ?_; conv => whnf))
    first | refine ⟨rfl, _, rfl, ?_⟩ | refine ⟨_, rfl, ?_⟩
    rfl
  rw [if_pos ⟨hi0, by simpa using h5⟩]
  conv => whnf
  repeat (first | (refine go_D8 ?_; conv => whnf) | (refine lk_D8 ?_; conv => whnf))
  first | refine ⟨rfl, _, rfl, ?_⟩ | refine ⟨_, rfl, ?_⟩
  rfl
omit hr hb in
theorem coveringNo_sat (c : Nat) (x : Int) (hx : x < 0) : Sat Try.prog 147 [roofD r, .v (.int .i64 x), .v (.int .i64 c)] (.v (.int .u8 0)) := by
  refine sat_of_wp hMix tOk Try.func147 rfl rfl Try.ntmps147 rfl rfl Try.results147 (by kernel_rfl) ?_
  conv => whnf
  repeat (first | (refine go_D8 ?_; conv => whnf) | (refine lk_D8 ?_; conv => whnf))
  rw [show decide (x < 0) = true by simpa using hx]
  conv => whnf
  repeat (first | (refine go_D8 ?_; conv => whnf) | (refine lk_D8 ?_; conv => whnf))
  first | refine ⟨rfl, _, rfl, ?_⟩ | refine ⟨_, rfl, ?_⟩
  rfl
end
theorem up32_sat (a b : Int) (ha : 0 ≤ a ∧ a ≤ 1000) (hb' : 2 ≤ b ∧ b ≤ 3) : Sat Try.prog 161 [.v (.int .i32 a), .v (.int .i32 b)] (.v (.int .i32 ((a + b - 1).tdiv b))) := by
  have h0 : b ≠ 0 := by omega
  refine sat_of_wp hMix tOk Try.func161 rfl rfl Try.ntmps161 rfl rfl Try.results161 (by kernel_rfl) ?_
  conv => whnf
  repeat (first | (refine go_D8 ?_; conv => whnf) | (refine lk_D8 ?_; conv => whnf))
  rw [show IntKind.i32.wrap (a + b) = a + b from w32 (by omega) (by omega), show IntKind.i32.wrap (a + b - 1) = a + b - 1 from w32 (by omega) (by omega)]
  have hq : (a + b - 1).tdiv b = (a + b - 1) / b := Int.tdiv_eq_ediv_of_nonneg (by omega)
  have h1 : 0 ≤ (a + b - 1) / b := Int.ediv_nonneg (by omega) (by omega)
  have h2 : (a + b - 1) / b ≤ a + b - 1 := Int.ediv_le_self _ (by omega)
  first | refine ⟨rfl, _, rfl, ?_⟩ | refine ⟨_, rfl, ?_⟩
  skip
  rw [show IntKind.i32.wrap ((a + b - 1).tdiv b) = (a + b - 1).tdiv b by rw [hq]; exact w32 (by omega) (by omega)]; rfl
def dofI (k a n : Int) : Int := if k = 1 then (n + 1).tdiv 2 else if k = 2 then (n + 2).tdiv 3 else if k = 3 then (if a = 2 then 0 else n) else 0
theorem dripOf_sat (k a n : Int) (hn : 0 ≤ n ∧ n ≤ 1000) : Sat Try.prog 141 [.v (.int .u8 k), .v (.int .u8 a), .v (.int .i32 n)] (.v (.int .i32 (dofI k a n))) := by
  refine sat_of_wp hMix tOk Try.func141 rfl rfl Try.ntmps141 rfl rfl Try.results141 (by kernel_rfl) ?_
  conv => whnf
  repeat (first | (refine go_D8 ?_; conv => whnf) | (refine lk_D8 ?_; conv => whnf))
  cases h1 : (k == 1)
  case true =>
    have h1' : k = 1 := by simpa using h1
    rw [show dofI k a n = (n + 2 - 1).tdiv 2 by unfold dofI; rw [if_pos h1', show n + 2 - 1 = n + 1 by omega]]
    conv => whnf
    repeat (first | (refine go_D8 ?_; conv => whnf) | (refine lk_D8 ?_; conv => whnf))
    first | refine ⟨_, _, rfl, sc_D8 (up32_sat n 2 hn (by omega)), ?_⟩ | refine .inl ⟨_, _, rfl, sc_D8 (up32_sat n 2 hn (by omega)), ?_⟩
    conv => whnf
    repeat (first | (refine go_D8 ?_; conv => whnf) | (refine lk_D8 ?_; conv => whnf))
    first | refine ⟨rfl, _, rfl, ?_⟩ | refine ⟨_, rfl, ?_⟩
    rfl
  have h1' : ¬ k = 1 := by simpa using h1
  conv => whnf
  repeat (first | (refine go_D8 ?_; conv => whnf) | (refine lk_D8 ?_; conv => whnf))
  cases h2 : (k == 2)
  case true =>
    have h2' : k = 2 := by simpa using h2
    rw [show dofI k a n = (n + 3 - 1).tdiv 3 by unfold dofI; rw [if_neg h1', if_pos h2', show n + 3 - 1 = n + 2 by omega]]
    conv => whnf
    repeat (first | (refine go_D8 ?_; conv => whnf) | (refine lk_D8 ?_; conv => whnf))
    first | refine ⟨_, _, rfl, sc_D8 (up32_sat n 3 hn (by omega)), ?_⟩ | refine .inl ⟨_, _, rfl, sc_D8 (up32_sat n 3 hn (by omega)), ?_⟩
    conv => whnf
    repeat (first | (refine go_D8 ?_; conv => whnf) | (refine lk_D8 ?_; conv => whnf))
    first | refine ⟨rfl, _, rfl, ?_⟩ | refine ⟨_, rfl, ?_⟩
    rfl
  have h2' : ¬ k = 2 := by simpa using h2
  conv => whnf
  repeat (first | (refine go_D8 ?_; conv => whnf) | (refine lk_D8 ?_; conv => whnf))
  cases h3 : (k == 3)
  · have h3' : ¬ k = 3 := by simpa using h3
    rw [show dofI k a n = 0 by unfold dofI; rw [if_neg h1', if_neg h2', if_neg h3']]
    conv => whnf
    repeat (first | (refine go_D8 ?_; conv => whnf) | (refine lk_D8 ?_; conv => whnf))
    first | refine ⟨rfl, _, rfl, ?_⟩ | refine ⟨_, rfl, ?_⟩
    rfl
  have h3' : k = 3 := by simpa using h3
  rw [show dofI k a n = if a = 2 then 0 else n by unfold dofI; rw [if_neg h1', if_neg h2', if_pos h3']]
  conv => whnf
  repeat (first | (refine go_D8 ?_; conv => whnf) | (refine lk_D8 ?_; conv => whnf))
  cases h4 : (a != 2)
  · rw [if_pos (by simpa using h4)]
    conv => whnf
    repeat (first | (refine go_D8 ?_; conv => whnf) | (refine lk_D8 ?_; conv => whnf))
    first | refine ⟨rfl, _, rfl, ?_⟩ | refine ⟨_, rfl, ?_⟩
    rfl
  rw [if_neg (by simpa using h4)]
  conv => whnf
  repeat (first | (refine go_D8 ?_; conv => whnf) | (refine lk_D8 ?_; conv => whnf))
  first | refine ⟨rfl, _, rfl, ?_⟩ | refine ⟨_, rfl, ?_⟩
  rfl
theorem dofI_eq (r : Roof) (i c : Nat) (n : Int) : dofI (ovI r i c) (if 0 < i then ovI r (i - 1) c else 0) n = drI r i c n := by
  unfold dofI drI
  by_cases hi : 0 < i
  · simp only [hi, if_true, true_and]
  · simp only [hi, if_false, false_and]
    split
    · rfl
    · split
      · rfl
      · split <;> rfl
set_option maxRecDepth 20000 in
theorem l02Run_sat (r : Roof) (hr : r.In) (hb : (1 ≤ r.w ∧ r.w ≤ 8) ∧ (1 ≤ r.h ∧ r.h ≤ 8) ∧ r.s ≤ 1) (w : Nat → Int) (hw : ∀ c, c < 17 → 0 ≤ w c ∧ w c ≤ 1000) :
    Sat Try.prog 118 [.ref false (roofD r) 0, .ref false (raiD w) 0] (.tup [dripD (dR r w), dripD (cmR r w), intsD true (gtL r w (2 * r.w + 1).toNat)]) := by
  have eh : IntKind.i64.wrap r.h = r.h := w64 (by omega) (by omega)
  have ez : dripC (fun _ _ => 0) = List.replicate 136 (.int .i32 0) := dripC_zero
  refine sat_of_wp hMix tOk Try.func118 rfl rfl Try.ntmps118 rfl rfl Try.results118 (by kernel_rfl) ?_
  conv => whnf
  repeat (first | (refine go_D8 ?_; conv => whnf) | (refine lk_D8 ?_; conv => whnf))
  refine loop_rule (α := Nat) (fun c => [(0, .ref false (roofD r) 0), (1, .ref false (raiD w) 0), (4, .ptr (4, 0, 0) 0), (5, .ptr (5, 0, 0) 0), (7, .ptr (7, 0, 0) 0), (8, .ptr (8, 0, 0) 0), (9, .slc true 1 (16, 0, 0) 0 c), (10, .v (.int .i64 c))]) (fun c => [((4, 0, 0), dripD (fun _ _ => 0)), ((5, 0, 0), dripD (fun _ _ => 0)), ((7, 0, 0), dripD (ptR (dR r w) c 0)), ((8, 0, 0), dripD (ptR (cmR r w) c 0)), ((16, 0, 0), .v (.agg ⟨intsC (gtL r w c)⟩))]) (fun c => c ≤ (2 * r.w + 1).toNat) (fun c => (2 * r.w + 1).toNat - c) (0) ?_ (sim_of (rn := [((4, 0, 0), (4, 0, 0)), ((5, 0, 0), (5, 0, 0)), ((7, 0, 0), (7, 0, 0)), ((8, 0, 0), (8, 0, 0)), ((16, 0, 0), (16, 0, 0))]) rfl ?_ ?_) ?_
  · exact okt_D8
  · exact hold_D8
  · ((repeat' (first | exact trivial | apply And.intro)) <;> ((first | refine ⟨_, _, rfl, rfl, ?_⟩ | refine ⟨_, _, rfl, renFlow rfl rfl, ?_⟩); first | (first | exact cset ez.symm | exact cset intsC_nil.symm | exact cset (by rw [ptR_zero, ez]; rfl)) | rfl))
  intro c hc
  conv => whnf
  repeat (first | (refine go_D8 ?_; conv => whnf) | (refine lk_D8 ?_; conv => whnf))
  first | refine ⟨_, _, rfl, sc_D8 (l01Cells_sat r hr hb), ?_⟩ | refine .inl ⟨_, _, rfl, sc_D8 (l01Cells_sat r hr hb), ?_⟩
  conv => whnf
  repeat (first | (refine go_D8 ?_; conv => whnf) | (refine lk_D8 ?_; conv => whnf))
  have z0 : ∀ i c, (2 * r.w + 1).toNat ≤ c → dR r w i c = 0 := fun i c h => by unfold dR; rw [if_neg (by unfold onR; omega)]
  have z1 : ∀ i c, (2 * r.w + 1).toNat ≤ c → cmR r w i c = 0 := fun i c h => by unfold cmR; rw [if_neg (by unfold onR; omega)]
  cases h1 : decide ((c : Int) < 2 * r.w + 1)
  · have hcn : c = (2 * r.w + 1).toNat := by simp at h1; omega
    subst hcn
    rw [ptR_all z0, ptR_all z1]
    conv => whnf
    repeat (first | (refine go_D8 ?_; conv => whnf) | (refine lk_D8 ?_; conv => whnf))
    first | refine ⟨rfl, _, rfl, ?_⟩ | refine ⟨_, rfl, ?_⟩
    skip
    rw [show intsD true (gtL r w (2 * r.w + 1).toNat) = .row true 1 (.v (.agg ⟨intsC (gtL r w (2 * r.w + 1).toNat)⟩)) (2 * r.w + 1).toNat by unfold intsD; rw [gtL_len]]
    exact congrArg2 (fun l l' => D.tup [.v (.agg ⟨l⟩), .v (.agg ⟨l'⟩), .row true 1 (.v (.agg ⟨intsC (gtL r w (2 * r.w + 1).toNat)⟩)) (2 * r.w + 1).toNat]) (two136 (x := dripC fun _ _ => 0) (y := dripC (dR r w)) (by simp) (by simp)) (two136 (x := dripC fun _ _ => 0) (y := dripC (cmR r w)) (by simp) (by simp))
  have hcn : (c : Int) < 2 * r.w + 1 := by simpa using h1
  have hwc := hw c (by omega)
  conv => whnf
  repeat (first | (refine go_D8 ?_; conv => whnf) | (refine lk_D8 ?_; conv => whnf))
  rw [show IntKind.i64.wrap (w c) = w c from w64 (by omega) (by omega)]
  refine loop_rule (α := Nat) (fun i => [(0, .ref false (roofD r) 0), (1, .ref false (raiD w) 0), (4, .ptr (4, 0, 0) 0), (5, .ptr (5, 0, 0) 0), (7, .ptr (7, 0, 0) 0), (8, .ptr (8, 0, 0) 0), (9, .slc true 1 (16, 0, 0) 0 c), (10, .v (.int .i64 c)), (11, .v (.int .i64 (wtI r w c i))), (12, .v (.int .i64 i))]) (fun i => [((4, 0, 0), dripD (fun _ _ => 0)), ((5, 0, 0), dripD (fun _ _ => 0)), ((7, 0, 0), dripD (ptR (dR r w) c i)), ((8, 0, 0), dripD (ptR (cmR r w) c i)), ((16, 0, 0), .v (.agg ⟨intsC (gtL r w c)⟩))]) (fun i => i ≤ r.h.toNat) (fun i => r.h.toNat - i) (0) ?_ (sim_of (rn := [((4, 0, 0), (4, 0, 0)), ((5, 0, 0), (5, 0, 0)), ((7, 0, 0), (7, 0, 0)), ((8, 0, 0), (8, 0, 0)), ((16, 0, 0), (16, 0, 0))]) rfl ?_ ?_) ?_
  · exact okt_D8
  · exact hold_D8
  · ((repeat' (first | exact trivial | apply And.intro)) <;> ((first | refine ⟨_, _, rfl, rfl, ?_⟩ | refine ⟨_, _, rfl, renFlow rfl rfl, ?_⟩); rfl))
  intro i hi
  have hwi := wtI_in r (w := w) (c := c) hwc i
  have hdi := drI_in r i c hwi.1
  conv => whnf
  repeat (first | (refine go_D8 ?_; conv => whnf) | (refine lk_D8 ?_; conv => whnf))
  rw [eh]
  cases h2 : decide ((i : Int) < r.h)
  · have hih : i = r.h.toNat := by simp at h2; omega
    subst hih
    have e2 : intsC (gtL r w c) ++ [.int .i64 (wtI r w c r.h.toNat)] = intsC (gtL r w (c + 1)) := by rw [gtL_next, intsC_append, intsC_one]
    have c0 : ptR (dR r w) c r.h.toNat = ptR (dR r w) (c + 1) 0 := ptR_col fun i hi => by unfold dR; rw [if_neg (by unfold onR; omega)]
    have c1 : ptR (cmR r w) c r.h.toNat = ptR (cmR r w) (c + 1) 0 := ptR_col fun i hi => by unfold cmR; rw [if_neg (by unfold onR; omega)]
    rw [c0, c1]
    conv => whnf
    repeat (first | (refine go_D8 ?_; conv => whnf) | (refine lk_D8 ?_; conv => whnf))
    refine ⟨c + 1, ?_, ?_, sim_of (rn := [((4, 0, 0), (4, 0, 0)), ((5, 0, 0), (5, 0, 0)), ((7, 0, 0), (7, 0, 0)), ((8, 0, 0), (8, 0, 0)), ((16, 0, 0), (61, 1, 0))]) rfl ?_ ?_⟩
    · (dsimp only; omega)
    · exact okt_D8
    · exact hold_D8
    · ((repeat' (first | exact trivial | apply And.intro)) <;> ((first | refine ⟨_, _, rfl, rfl, ?_⟩ | refine ⟨_, _, rfl, renFlow rfl rfl, ?_⟩); first | (exact cset e2) | rfl))
  have hih : (i : Int) < r.h := by simpa using h2
  have hon : onR r i c := ⟨hih, hcn⟩
  have ed : dR r w i c = drI r i c (wtI r w c i) := by unfold dR; rw [if_pos hon]
  have em : cmR r w i c = wtI r w c i := by unfold cmR; rw [if_pos hon]
  conv => whnf
  repeat (first | (refine go_D8 ?_; conv => whnf) | (refine lk_D8 ?_; conv => whnf))
  first | refine ⟨_, _, rfl, sc_D8 (l02Drip_sat r hr hb i c (by omega) (by omega) (wtI r w c i) hwi), ?_⟩ | refine .inl ⟨_, _, rfl, sc_D8 (l02Drip_sat r hr hb i c (by omega) (by omega) (wtI r w c i) hwi), ?_⟩
  conv => whnf
  repeat (first | (refine go_D8 ?_; conv => whnf) | (refine lk_D8 ?_; conv => whnf))
  have setD : (dripC (ptR (dR r w) c i)).set (0 + (i : Int).toNat * 17 + (c : Int).toNat * 1) (.int .i32 (IntKind.i32.wrap (drI r i c (wtI r w c i)))) = dripC (ptR (dR r w) c (i + 1)) := by
    rw [w32 (by omega) (by omega), drip_set (i := i) (c := c) (by simp) (by omega) (by omega), ← ed, ptR_put]
  have setM : (dripC (ptR (cmR r w) c i)).set (0 + (i : Int).toNat * 17 + (c : Int).toNat * 1) (.int .i32 (IntKind.i32.wrap (wtI r w c i))) = dripC (ptR (cmR r w) c (i + 1)) := by
    rw [w32 (by omega) (by omega), drip_set (i := i) (c := c) (by simp) (by omega) (by omega), ← em, ptR_put]
  have ew : wtI r w c (i + 1) = IntKind.i64.wrap (wtI r w c i - drI r i c (wtI r w c i)) := by rw [w64 (by omega) (by omega)]; rfl
  refine ⟨i + 1, ?_, ?_, sim_of (rn := [((4, 0, 0), (4, 0, 0)), ((5, 0, 0), (5, 0, 0)), ((7, 0, 0), (7, 0, 0)), ((8, 0, 0), (8, 0, 0)), ((16, 0, 0), (16, 0, 0))]) rfl ?_ ?_⟩
  · (dsimp only; omega)
  · exact okt_D8
  · ((repeat' (first | exact trivial | apply And.intro)) <;> (first | rfl | (exact vintS ew) | exact leaf_D8))
  · ((repeat' (first | exact trivial | apply And.intro)) <;> ((first | refine ⟨_, _, rfl, rfl, ?_⟩ | refine ⟨_, _, rfl, renFlow rfl rfl, ?_⟩); first | (first | exact cset setD | exact cset setM) | rfl))
end Go.Proofs.Ytejncabmppobfaa
/- Contracts: rain that runs down a roof, both sides. -/
set_option linter.unusedVariables false
set_option linter.unusedSimpArgs false
namespace Go.V
/- Words for the walks of this text: their default arguments are tried where they are used. -/
theorem go_D9 {P Q : Prop} (k : Q) (h : P := by first | exact Nat.le_of_ble_eq_true rfl | exact mapOkP | exact rfl | decide | omega | (simp [splice]; done) | (constructor <;> omega) | (simp [splice]; omega)) : P ∧ Q := ⟨h, k⟩
theorem lk_D9 {α : Type} {o : Option α} {K : α → Prop} {x : α} (k : K x) (h : o = some x := by first | exact raiA (by omega) | exact raiA' (by omega) | exact dripA (by omega) (by omega) | exact roofN (by omega) (by omega) | exact gridN (by omega) (by omega) | exact flowG | exact flowM | exact intA (by omega) | exact intA' (by omega)) : optK o K := optK_of h k
theorem sc_D9 {P : Program} {g : FuncId} {args args' : List D} {res : D} (h : Sat P g args res) (e : args' = args := by repeat (first | rfl | exact vfull (by first | (simp [splice]; done) | (simp [splice]; omega)) | exact rfull (by first | (simp [splice]; done) | (simp [splice]; omega)) | exact vplace (by simp; done) (by omega) | exact vrow (by simp; done) (by omega) | exact vtiles (by simp) | exact vsplice (by simp) (by simp) | refine ceq ?_ ?_ | refine Eq.trans (vsplice (by first | (simp; done) | (simp; omega)) (by first | (simp; done) | (simp; omega))) ?_)) : Sat P g args' res := Sat.of_eq h e
theorem leaf_D9 {P : Prop} (h : P := by first | rfl | exact succ8 (by omega) | exact succ64 (by omega) | exact CapOk.fn (by assumption) _ _ | exact vintS (by omega) | exact vintS (by rw [w64 (by omega) (by omega)]; omega) | exact vintS (by rw [w8 (by omega) (by omega)]; omega) | exact vslcS (by omega) | exact vslcS (by simp)) : P := h
theorem hold_D9 {P : Prop} (h : P := by (repeat' (first | exact trivial | apply And.intro)) <;> (first | rfl | exact succ8 (by omega) | exact succ64 (by omega) | exact CapOk.fn (by assumption) _ _ | exact vintS (by omega) | exact vintS (by rw [w64 (by omega) (by omega)]; omega) | exact vintS (by rw [w8 (by omega) (by omega)]; omega) | exact vslcS (by omega) | exact vslcS (by simp))) : P := h
theorem okt_D9 {P : Prop} (h : P := by first | omega | (dsimp only; omega) | ((repeat' apply And.intro) <;> omega) | (dsimp only; (repeat' apply And.intro) <;> omega) | trivial) : P := h
end Go.V
namespace Go.Proofs.Ytejncabmppobfaa
open Go.V
theorem region11 {id : Nat} {t1 t2 t3 t4 t5 t6 t7 t8 : TypeId} {p1 p2 p3 p4 p5 p6 p7 p8 : String} {a1 a2 a3 a4 a5 a6 a7 a8 : Array Edge} {Q : Ex → St → Prop} {s : St} {f : Nat → Nat → Int} {x : D} {i k : Int}
    (h5 : s.t 5 = .ptr (5, 0, 0) 0) (h8 : s.t 8 = .v (.int .i64 i)) (h9 : s.t 9 = .v (.int .i64 k)) (hm : s.m (5, 0, 0) = some (.agg (dripL f ++ [x, (.mr (11, 0, 0))]))) (hp : s.m (11, 0, 0) = some (.obj .places))
    (hQ : Q .normal (((((((s.set 38 (.ptr (5, 0, 0) (0 + 137))).set 39 (.mr (11, 0, 0))).set 40 (.v (.int .i64 i))).set 41 (.v (.int .i8 (IntKind.i8.wrap i)))).set 42 (.v (.int .i64 k))).set 43 (.v (.int .i8 (IntKind.i8.wrap k)))).set 44 (.v (.agg ⟨[.int .i8 (IntKind.i8.wrap i), .int .i8 (IntKind.i8.wrap k)]⟩)))) :
    wp Try.prog tt (Code.region id #[⟨some 38, .fieldAddr 158 (.tmp 5) 2, t1, p1, a1, none⟩, ⟨some 39, .load 70 (.tmp 38), t2, p2, a2, none⟩, ⟨some 40, .move (.tmp 8), t3, p3, a3, none⟩, ⟨some 41, .convert 3 22 (.tmp 40), t4, p4, a4, none⟩,
      ⟨some 42, .move (.tmp 9), t5, p5, a5, none⟩, ⟨some 43, .convert 3 22 (.tmp 42), t6, p6, a6, none⟩, ⟨some 44, .build 56 #[(0, .tmp 41), (1, .tmp 43)], t7, p7, a7, none⟩, ⟨none, .mapUpdate 70 (.tmp 39) (.tmp 44) (.const (.bool true)), t8, p8, a8, none⟩] false) Q s := by
  have e5 : s.ev (.tmp 5) = .ptr (5, 0, 0) 0 := h5
  conv => whnf
  rw [e5]
  conv => whnf
  have em : (s.set 38 (.ptr (5, 0, 0) (0 + 137))).m (5, 0, 0) = some (.agg (dripL f ++ [x, (.mr (11, 0, 0))])) := hm
  first | rw [em] | rw [hm] | trace_state
  conv => whnf
  refine optK_of flowM ?_
  conv => whnf
  have e8 : ((s.set 38 (.ptr (5, 0, 0) (0 + 137))).set 39 (.mr (11, 0, 0))).ev (.tmp 8) = .v (.int .i64 i) := h8
  rw [e8]
  conv => whnf
  have e9 : ((((s.set 38 (.ptr (5, 0, 0) (0 + 137))).set 39 (.mr (11, 0, 0))).set 40 (.v (.int .i64 i))).set 41 (.v (.int .i8 (IntKind.i8.wrap i)))).ev (.tmp 9) = .v (.int .i64 k) := h9
  rw [e9]
  conv => whnf
  generalize hh : St.m _ (11, 0, 0) = q
  obtain rfl : q = some (.obj .places) := hh.symm.trans hp
  conv => whnf
  exact ⟨mapOkP, hQ⟩
set_option maxRecDepth 20000 in
theorem run_sat (r : Roof) (hr : r.In) (hb : (1 ≤ r.w ∧ r.w ≤ 8) ∧ (1 ≤ r.h ∧ r.h ≤ 8) ∧ r.s ≤ 1) (w : Nat → Int) (hw : ∀ c, c < 17 → 0 ≤ w c ∧ w c ≤ 1000) :
    Sat Try.prog 124 [roofD r, raiD w] (.agg (dripL (dR r w) ++ [intsD true (gtL r w (2 * r.w + 1).toNat), .junk])) := by
  have eh : IntKind.i64.wrap r.h = r.h := w64 (by omega) (by omega)
  have ez : dripC (fun _ _ => 0) = List.replicate 136 (.int .i32 0) := dripC_zero
  have e5 : dripL (ptR (dR r w) 0 0) = (List.replicate 136 (.int .i32 0)).map D.v := by unfold dripL; rw [ptR_zero, ez]
  refine sat_of_wp hMix tOk Try.func124 rfl rfl Try.ntmps124 rfl rfl Try.results124 (by kernel_rfl) ?_
  conv => whnf
  repeat (first | (refine go_D9 ?_; conv => whnf) | (refine lk_D9 ?_; conv => whnf))
  first | refine ⟨_, _, rfl, sc_D9 (cells_sat r hr hb), ?_⟩ | refine .inl ⟨_, _, rfl, sc_D9 (cells_sat r hr hb), ?_⟩
  conv => whnf
  repeat (first | (refine go_D9 ?_; conv => whnf) | (refine lk_D9 ?_; conv => whnf))
  refine loop_rule (α := Nat) (fun c => [(2, .ptr (2, 0, 0) 0), (3, .ptr (3, 0, 0) 0), (4, .ptr (4, 0, 0) 0), (5, .ptr (5, 0, 0) 0), (14, .v (.int .i64 (2 * r.w + 1))), (15, .v (.int .i64 c))]) (fun c => [((2, 0, 0), roofD r), ((3, 0, 0), raiD w), ((4, 0, 0), .v (.agg ⟨List.replicate 136 (.int .i32 0) ++ [.slice none 0 0] ++ [.map none]⟩)), ((5, 0, 0), .agg (dripL (ptR (dR r w) c 0) ++ [.slc true 1 (71, 0, 0) 0 c, (.mr (11, 0, 0))])), ((71, 0, 0), .v (.agg ⟨intsC (gtL r w c)⟩)), ((11, 0, 0), .obj .places)]) (fun c => c ≤ (2 * r.w + 1).toNat) (fun c => (2 * r.w + 1).toNat - c) (0) ?_ (Sim.trans (places_sim (id := (11, 0, 0)) rfl) (sim_of (rn := [((2, 0, 0), (2, 0, 0)), ((3, 0, 0), (3, 0, 0)), ((4, 0, 0), (4, 0, 0)), ((5, 0, 0), (5, 0, 0)), ((71, 0, 0), nilId), ((11, 0, 0), (11, 0, 0))]) rfl ?_ ?_)) ?_
  · exact okt_D9
  · exact hold_D9
  · ((repeat' (first | exact trivial | apply And.intro)) <;> ((first | refine ⟨_, _, rfl, rfl, ?_⟩ | refine ⟨_, _, rfl, renFlow rfl rfl, ?_⟩); first | (first | exact cset intsC_nil.symm | (rw [e5]; rfl)) | rfl))
  intro c hc
  have z0 : ∀ i c, (2 * r.w + 1).toNat ≤ c → dR r w i c = 0 := fun i c h => by unfold dR; rw [if_neg (by unfold onR; omega)]
  conv => whnf
  repeat (first | (refine go_D9 ?_; conv => whnf) | (refine lk_D9 ?_; conv => whnf))
  cases h1 : decide ((c : Int) < 2 * r.w + 1)
  · have hcn : c = (2 * r.w + 1).toNat := by simp at h1; omega
    subst hcn
    rw [ptR_all z0]
    conv => whnf
    repeat (first | (refine go_D9 ?_; conv => whnf) | (refine lk_D9 ?_; conv => whnf))
    rw [ti158_size, end138 (by simp) (by simp)]
    refine ⟨_, expFlow rfl rfl, ?_⟩
    have e1 : List.take ((2 * r.w + 1).toNat * 1) (List.drop 0 (intsC (gtL r w (2 * r.w + 1).toNat))) = intsC (gtL r w (2 * r.w + 1).toNat) := by rw [List.drop_zero, take_full (by simp)]
    refine Eq.trans (b := D.agg (dripL (dR r w) ++ [.row true 1 (.v (.agg ⟨List.take ((2 * r.w + 1).toNat * 1) (List.drop 0 (intsC (gtL r w (2 * r.w + 1).toNat)))⟩)) (2 * r.w + 1).toNat, .junk])) ?_ rfl
    rw [e1]
    unfold intsD
    rw [gtL_len]
  have hcn : (c : Int) < 2 * r.w + 1 := by simpa using h1
  have hwc := hw c (by omega)
  conv => whnf
  repeat (first | (refine go_D9 ?_; conv => whnf) | (refine lk_D9 ?_; conv => whnf))
  rw [show IntKind.i32.wrap (w c) = w c from w32 (by omega) (by omega), eh]
  refine loop_rule (α := Nat) (fun i => [(2, .ptr (2, 0, 0) 0), (3, .ptr (3, 0, 0) 0), (4, .ptr (4, 0, 0) 0), (5, .ptr (5, 0, 0) 0), (6, .v (.int .i64 c)), (7, .v (.int .i32 (wtI r w c i))), (14, .v (.int .i64 (2 * r.w + 1))), (15, .v (.int .i64 c)), (24, .v (.int .i64 r.h)), (25, .v (.int .i64 i))]) (fun i => [((2, 0, 0), roofD r), ((3, 0, 0), raiD w), ((4, 0, 0), .v (.agg ⟨List.replicate 136 (.int .i32 0) ++ [.slice none 0 0] ++ [.map none]⟩)), ((5, 0, 0), .agg (dripL (ptR (dR r w) c i) ++ [.slc true 1 (71, 0, 0) 0 c, (.mr (11, 0, 0))])), ((71, 0, 0), .v (.agg ⟨intsC (gtL r w c)⟩)), ((11, 0, 0), .obj .places)]) (fun i => i ≤ r.h.toNat) (fun i => r.h.toNat - i) (0) ?_ (sim_of (rn := [((2, 0, 0), (2, 0, 0)), ((3, 0, 0), (3, 0, 0)), ((4, 0, 0), (4, 0, 0)), ((5, 0, 0), (5, 0, 0)), ((71, 0, 0), (71, 0, 0)), ((11, 0, 0), (11, 0, 0))]) rfl ?_ ?_) ?_
  · exact okt_D9
  · exact hold_D9
  · ((repeat' (first | exact trivial | apply And.intro)) <;> ((first | refine ⟨_, _, rfl, rfl, ?_⟩ | refine ⟨_, _, rfl, renFlow rfl rfl, ?_⟩); rfl))
  intro i hi
  have hwi := wtI_in r (w := w) (c := c) hwc i
  have hdi := drI_in r i c hwi.1
  conv => whnf
  repeat (first | (refine go_D9 ?_; conv => whnf) | (refine lk_D9 ?_; conv => whnf))
  cases h2 : decide ((i : Int) < r.h)
  · have hih : i = r.h.toNat := by simp at h2; omega
    subst hih
    have e2 : intsC (gtL r w c) ++ [.int .i64 (wtI r w c r.h.toNat)] = intsC (gtL r w (c + 1)) := by rw [gtL_next, intsC_append, intsC_one]
    have c0 : ptR (dR r w) c r.h.toNat = ptR (dR r w) (c + 1) 0 := ptR_col fun i hi => by unfold dR; rw [if_neg (by unfold onR; omega)]
    have e64 : IntKind.i64.wrap (wtI r w c r.h.toNat) = wtI r w c r.h.toNat := w64 (by omega) (by omega)
    rw [c0]
    conv => whnf
    repeat (first | (refine go_D9 ?_; conv => whnf) | (refine lk_D9 ?_; conv => whnf))
    refine ⟨c + 1, ?_, ?_, sim_of (rn := [((2, 0, 0), (2, 0, 0)), ((3, 0, 0), (3, 0, 0)), ((4, 0, 0), (4, 0, 0)), ((5, 0, 0), (5, 0, 0)), ((71, 0, 0), (71, 1, 0)), ((11, 0, 0), (11, 0, 0))]) rfl ?_ ?_⟩
    · (dsimp only; omega)
    · exact okt_D9
    · exact hold_D9
    · ((repeat' (first | exact trivial | apply And.intro)) <;> ((first | refine ⟨_, _, rfl, rfl, ?_⟩ | refine ⟨_, _, rfl, renFlow rfl rfl, ?_⟩); first | (first | exact congrArg (fun l => some (D.agg l)) flow_setG | exact cset (by rw [e64]; exact e2)) | rfl))
  have hih : (i : Int) < r.h := by simpa using h2
  have hon : onR r i c := ⟨hih, hcn⟩
  have ed : dR r w i c = drI r i c (wtI r w c i) := by unfold dR; rw [if_pos hon]
  have setF : ∀ (o : Nat), o = i * 17 + c → ∀ x y : D, (dripL (ptR (dR r w) c i) ++ [x, y]).set o (.v (.int .i32 (drI r i c (wtI r w c i)))) = dripL (ptR (dR r w) c (i + 1)) ++ [x, y] := fun o ho x y => by
    rw [flow_set (i := i) (c := c) ho (by omega) (by omega), ← ed, ptR_put]
  have ew : wtI r w c (i + 1) = IntKind.i32.wrap (wtI r w c i - drI r i c (wtI r w c i)) := by rw [w32 (by omega) (by omega)]; rfl
  have cov2 : Sat Try.prog 147 [roofD r, .v (.int .i64 (IntKind.i64.wrap ((i : Int) - 1))), .v (.int .i64 c)] (.v (.int .u8 (if 0 < i then ovI r (i - 1) c else 0))) := by
    by_cases h0 : 0 < i
    · rw [if_pos h0, show IntKind.i64.wrap ((i : Int) - 1) = ((i - 1 : Nat) : Int) by rw [w64 (by omega) (by omega)]; omega]
      exact covering_sat r hr hb (i - 1) c (by omega) (by omega)
    · rw [if_neg h0]
      exact coveringNo_sat r c _ (by rw [w64 (by omega) (by omega)]; omega)
  clear h2
  conv => whnf
  repeat (first | (refine go_D9 ?_; conv => whnf) | (refine lk_D9 ?_; conv => whnf))
  first | refine ⟨_, _, rfl, sc_D9 (tileAt_sat r hr hb i c (by omega) (by omega)), ?_⟩ | refine .inl ⟨_, _, rfl, sc_D9 (tileAt_sat r hr hb i c (by omega) (by omega)), ?_⟩
  conv => whnf
  repeat (first | (refine go_D9 ?_; conv => whnf) | (refine lk_D9 ?_; conv => whnf))
  cases h3 : (tlI r i c != -1)
  case true =>
    conv => whnf
    repeat (first | (refine go_D9 ?_; conv => whnf) | (refine lk_D9 ?_; conv => whnf))
    cases h4 : decide (wtI r w c i > 0)
    case' true => refine region11 rfl rfl rfl rfl rfl ?_
    all_goals
      clear h4
      conv => whnf
      repeat (first | (refine go_D9 ?_; conv => whnf) | (refine lk_D9 ?_; conv => whnf))
      first | refine ⟨_, _, rfl, sc_D9 (covering_sat r hr hb i c (by omega) (by omega)), ?_⟩ | refine .inl ⟨_, _, rfl, sc_D9 (covering_sat r hr hb i c (by omega) (by omega)), ?_⟩
      conv => whnf
      repeat (first | (refine go_D9 ?_; conv => whnf) | (refine lk_D9 ?_; conv => whnf))
      first | refine ⟨_, _, rfl, sc_D9 (cov2), ?_⟩ | refine .inl ⟨_, _, rfl, sc_D9 (cov2), ?_⟩
      conv => whnf
      repeat (first | (refine go_D9 ?_; conv => whnf) | (refine lk_D9 ?_; conv => whnf))
      first | refine ⟨_, _, rfl, sc_D9 (dripOf_sat _ _ _ hwi), ?_⟩ | refine .inl ⟨_, _, rfl, sc_D9 (dripOf_sat _ _ _ hwi), ?_⟩
      conv => whnf
      repeat (first | (refine go_D9 ?_; conv => whnf) | (refine lk_D9 ?_; conv => whnf))
      rw [dofI_eq]
      repeat (first | (refine go_D9 ?_; conv => whnf) | (refine lk_D9 ?_; conv => whnf))
      refine ⟨i + 1, ?_, ?_, sim_of (rn := [((2, 0, 0), (2, 0, 0)), ((3, 0, 0), (3, 0, 0)), ((4, 0, 0), (4, 0, 0)), ((5, 0, 0), (5, 0, 0)), ((71, 0, 0), (71, 0, 0)), ((11, 0, 0), (11, 0, 0))]) rfl ?_ ?_⟩
      · (dsimp only; omega)
      · exact okt_D9
      · ((repeat' (first | exact trivial | apply And.intro)) <;> (first | rfl | (exact vintS ew) | exact leaf_D9))
      · ((repeat' (first | exact trivial | apply And.intro)) <;> ((first | refine ⟨_, _, rfl, rfl, ?_⟩ | refine ⟨_, _, rfl, renFlow rfl rfl, ?_⟩); first | (((conv => lhs; whnf); exact congrArg (fun l => some (D.agg l)) (setF _ (by simp) _ _))) | rfl))
  conv => whnf
  repeat (first | (refine go_D9 ?_; conv => whnf) | (refine lk_D9 ?_; conv => whnf))
  first | refine ⟨_, _, rfl, sc_D9 (covering_sat r hr hb i c (by omega) (by omega)), ?_⟩ | refine .inl ⟨_, _, rfl, sc_D9 (covering_sat r hr hb i c (by omega) (by omega)), ?_⟩
  conv => whnf
  repeat (first | (refine go_D9 ?_; conv => whnf) | (refine lk_D9 ?_; conv => whnf))
  first | refine ⟨_, _, rfl, sc_D9 (cov2), ?_⟩ | refine .inl ⟨_, _, rfl, sc_D9 (cov2), ?_⟩
  conv => whnf
  repeat (first | (refine go_D9 ?_; conv => whnf) | (refine lk_D9 ?_; conv => whnf))
  first | refine ⟨_, _, rfl, sc_D9 (dripOf_sat _ _ _ hwi), ?_⟩ | refine .inl ⟨_, _, rfl, sc_D9 (dripOf_sat _ _ _ hwi), ?_⟩
  conv => whnf
  repeat (first | (refine go_D9 ?_; conv => whnf) | (refine lk_D9 ?_; conv => whnf))
  rw [dofI_eq]
  repeat (first | (refine go_D9 ?_; conv => whnf) | (refine lk_D9 ?_; conv => whnf))
  refine ⟨i + 1, ?_, ?_, sim_of (rn := [((2, 0, 0), (2, 0, 0)), ((3, 0, 0), (3, 0, 0)), ((4, 0, 0), (4, 0, 0)), ((5, 0, 0), (5, 0, 0)), ((71, 0, 0), (71, 0, 0)), ((11, 0, 0), (11, 0, 0))]) rfl ?_ ?_⟩
  · (dsimp only; omega)
  · exact okt_D9
  · ((repeat' (first | exact trivial | apply And.intro)) <;> (first | rfl | (exact vintS ew) | exact leaf_D9))
  · ((repeat' (first | exact trivial | apply And.intro)) <;> ((first | refine ⟨_, _, rfl, rfl, ?_⟩ | refine ⟨_, _, rfl, renFlow rfl rfl, ?_⟩); first | (((conv => lhs; whnf); exact congrArg (fun l => some (D.agg l)) (setF _ (by simp) _ _))) | rfl))
end Go.Proofs.Ytejncabmppobfaa
/- Plain words: rain that is valid, how much drips in all, the best tile to make whole. -/
set_option linter.unusedVariables false
set_option linter.unusedSimpArgs false
namespace Go.V
def rnB (r : Roof) (w : Nat → Int) (c : Nat) : Bool := deepB (w c) && !(decide ((c : Int) ≥ 2 * r.w + 1) && w c != 0)
def okN (r : Roof) (w : Nat → Int) : Bool := okR r && (List.range 17).all (rnB r w)
theorem okN_R {r : Roof} {w : Nat → Int} (h : okN r w = true) : okR r = true := by unfold okN at h; rw [Bool.and_eq_true] at h; exact h.1
theorem okN_w {r : Roof} {w : Nat → Int} (h : okN r w = true) : ∀ c, c < 17 → 0 ≤ w c ∧ w c ≤ 1000 := by
  intro c hc
  unfold okN at h
  rw [Bool.and_eq_true] at h
  have := List.all_eq_true.1 h.2 c (by simpa using hc)
  unfold rnB at this
  rw [Bool.and_eq_true] at this
  have := this.1
  unfold deepB at this
  simpa using this
theorem okN_no {r : Roof} {w : Nat → Int} {c : Nat} (hc : c < 17) (h : rnB r w c = false) : okN r w = false := by
  unfold okN
  rw [Bool.and_eq_false_iff]
  right
  rw [List.all_eq_false]
  exact ⟨c, by simpa using hc, by simp [h]⟩
theorem okN_yes {r : Roof} {w : Nat → Int} (hR : okR r = true) (h : ∀ c, c < 17 → rnB r w c = true) : okN r w = true := by
  unfold okN
  rw [Bool.and_eq_true]
  exact ⟨hR, List.all_eq_true.2 fun c hc => h c (by simpa using hc)⟩
def smT (p : Nat → Int) : Nat → Int
  | 0 => 0
  | n + 1 => smT p n + p n
/-- The sum of a table's first rows. -/
def totS (f : Nat → Nat → Int) (n : Nat) : Int := smT (fun i => smT (f i) 17) n
def InM (f : Nat → Nat → Int) : Prop := ∀ i c, c < 17 → 0 ≤ f i c ∧ f i c ≤ 1000
theorem smT_in {p : Nat → Int} {b : Nat} {m : Nat} (h : ∀ i, i < m → 0 ≤ p i ∧ p i ≤ b) : ∀ n, n ≤ m → 0 ≤ smT p n ∧ smT p n ≤ (n * b : Nat)
  | 0, _ => by simp [smT]
  | n + 1, hn => by
    have ih := smT_in h n (by omega)
    have := h n (by omega)
    rw [Nat.succ_mul]
    simp only [smT]; omega
theorem row_in {f : Nat → Nat → Int} (h : InM f) (i : Nat) {c : Nat} (hc : c ≤ 17) : 0 ≤ smT (f i) c ∧ smT (f i) c ≤ 17000 := by
  have := smT_in (b := 1000) (m := 17) (fun c hc => h i c hc) c hc
  omega
theorem tot_in {f : Nat → Nat → Int} (h : InM f) {n : Nat} (hn : n ≤ 8) : 0 ≤ totS f n ∧ totS f n ≤ 136000 := by
  have := smT_in (p := fun i => smT (f i) 17) (b := 17000) (m := 8) (fun i _ => row_in h i (Nat.le_refl _)) n hn
  unfold totS
  omega
theorem smT_zero {p : Nat → Int} {m : Nat} (h : ∀ i, i < m → p i = 0) : ∀ n, n ≤ m → smT p n = 0
  | 0, _ => rfl
  | n + 1, hn => by simp only [smT, smT_zero h n (by omega), h n (by omega), Int.add_zero]
theorem smT_more {p : Nat → Int} {n : Nat} (h : ∀ i, n ≤ i → p i = 0) : ∀ k, smT p (n + k) = smT p n
  | 0 => rfl
  | k + 1 => by
    show smT p (n + k) + p (n + k) = _
    rw [smT_more h k, h _ (by omega), Int.add_zero]
theorem tot_top {f : Nat → Nat → Int} {n : Nat} (h : ∀ i, n ≤ i → ∀ c, f i c = 0) (hn : n ≤ 8) : totS f 8 = totS f n := by
  have := smT_more (p := fun i => smT (f i) 17) (n := n) (fun i hi => smT_zero (m := 17) (fun c _ => h i hi c) 17 (Nat.le_refl _)) (8 - n)
  unfold totS
  rw [← this, show n + (8 - n) = 8 by omega]
/-- How much drips in all. -/
def dsI (r : Roof) (w : Nat → Int) : Int := totS (dR r w) 8
theorem dR_inM (r : Roof) {w : Nat → Int} (h : ∀ c, c < 17 → 0 ≤ w c ∧ w c ≤ 1000) : InM (dR r w) := fun i c hc => dR_in r h hc
theorem dsI_h {r : Roof} {w : Nat → Int} (hh : 0 ≤ r.h ∧ r.h ≤ 8) : dsI r w = totS (dR r w) r.h.toNat :=
  tot_top (fun i hi c => by unfold dR; rw [if_neg (by unfold onR; omega)]) (by omega)
/-- How much less drips if a tile is whole. -/
def svI (r : Roof) (w : Nat → Int) (c k : Nat) : Int := dsI r w - dsI (putR r c k 0) w
def wrB (r : Roof) (c k : Nat) : Bool := r.t c k != 0
def wrP (r : Roof) : List Pl := allP r (wrB r)
theorem nthP_mem {ps : List Pl} {i : Nat} (h : i < ps.length) : nthP ps i ∈ ps := List.mem_of_getElem? (nthP_some h)
theorem bestL_mem2 {a : Nat → Nat → Int} {ps : List Pl} : ∀ {i : Nat}, i < ps.length → bestL a ps i ∈ ps
  | 0, h => nthP_mem h
  | i + 1, h => by
    simp only [bestL]
    split
    · exact nthP_mem h
    · exact bestL_mem2 (by omega)
/-- The tile that is best made whole. -/
def bwP (r : Roof) (w : Nat → Int) : Pl := bestL (svI r w) (wrP r) ((wrP r).length - 1)
def mdR (r : Roof) (w : Nat → Int) : Nat → Roof
  | 0 => r
  | n + 1 => putR (mdR r w n) (bwP (mdR r w n) w).1 (bwP (mdR r w n) w).2 0
def mdL (r : Roof) (w : Nat → Int) : Nat → List Pl
  | 0 => []
  | n + 1 => mdL r w n ++ [bwP (mdR r w n) w]
@[simp] theorem mdR_w (r : Roof) (w : Nat → Int) : ∀ n, (mdR r w n).w = r.w
  | 0 => rfl
  | n + 1 => mdR_w r w n
@[simp] theorem mdR_h (r : Roof) (w : Nat → Int) : ∀ n, (mdR r w n).h = r.h
  | 0 => rfl
  | n + 1 => mdR_h r w n
@[simp] theorem mdR_s (r : Roof) (w : Nat → Int) : ∀ n, (mdR r w n).s = r.s
  | 0 => rfl
  | n + 1 => mdR_s r w n
@[simp] theorem mdL_len (r : Roof) (w : Nat → Int) : ∀ n, (mdL r w n).length = n
  | 0 => rfl
  | n + 1 => by simp [mdL, mdL_len r w n]
theorem wrP_eq (r : Roof) : wrP r = (gridP r.w.toNat r.h.toNat).filter fun q => wrB r q.1 q.2 := allP_eq r _
theorem wrP_drop {r : Roof} {q : Pl} (h : q ∈ wrP r) : (wrP (putR r q.1 q.2 0)).length < (wrP r).length := by
  rw [wrP_eq] at h
  rw [wrP_eq, wrP_eq]
  show ((gridP r.w.toNat r.h.toNat).filter fun x => wrB (putR r q.1 q.2 0) x.1 x.2).length < _
  have e : ((gridP r.w.toNat r.h.toNat).filter fun x => wrB (putR r q.1 q.2 0) x.1 x.2) = ((gridP r.w.toNat r.h.toNat).filter fun q => wrB r q.1 q.2).filter fun x => x != q := by
    rw [List.filter_filter]
    apply List.filter_congr
    intro x _
    unfold wrB putR putG
    by_cases hx : x = q
    · subst hx; simp
    · have : ¬ (x.1 = q.1 ∧ x.2 = q.2) := fun h => hx (Prod.ext h.1 h.2)
      have hx' : (x != q) = true := by simpa using hx
      simp [this, hx']
  rw [e]
  exact List.length_filter_lt_length_iff_exists.2 ⟨q, h, by simp⟩
theorem wrP_ne {r : Roof} {w : Nat → Int} (hw : ∀ c, c < 17 → 0 ≤ w c ∧ w c ≤ 1000) (hb : (1 ≤ r.w ∧ r.w ≤ 8) ∧ (1 ≤ r.h ∧ r.h ≤ 8) ∧ r.s ≤ 1) (h : 0 < dsI r w) : 0 < (wrP r).length := by
  rcases Nat.eq_zero_or_pos (wrP r).length with h0 | h0
  · exfalso
    have hall : ∀ c k : Nat, (c : Int) < r.h → (k : Int) < r.w → r.t c k = 0 := by
      intro c k hc hk
      have hm : (c, k) ∈ gridP r.w.toNat r.h.toNat := by
        unfold gridP rowP
        simp only [List.mem_flatMap, List.mem_range, List.mem_map]
        exact ⟨c, by omega, k, by omega, rfl⟩
      rw [List.length_eq_zero_iff, wrP_eq] at h0
      have := List.filter_eq_nil_iff.1 h0 _ hm
      unfold wrB at this
      simpa using this
    have hd : ∀ i c, dR r w i c = 0 := by
      intro i c
      unfold dR
      split
      · rename_i hon
        have ho : ovI r i c = 0 := by
          have := tlI_range r i c
          unfold ovI
          split
          · rfl
          · exact hall _ _ hon.1 (by omega)
        unfold drI
        rw [ho]
        rfl
      · rfl
    have : dsI r w = 0 := by
      unfold dsI totS
      exact smT_zero (m := 8) (fun i _ => smT_zero (m := 17) (fun c _ => hd i c) 17 (Nat.le_refl _)) 8 (Nat.le_refl _)
    omega
  · exact h0
theorem bwP_mem {r : Roof} {w : Nat → Int} (h : 0 < (wrP r).length) : bwP r w ∈ wrP r := bestL_mem2 (by omega)
/-- What holds before each round. -/
structure MdOk (r : Roof) (w : Nat → Int) (b : Int) (n : Nat) : Prop where
  le : n + (wrP (mdR r w n)).length ≤ 64
  no : ∀ j, j < n → b < dsI (mdR r w j) w
theorem MdOk.zero {r : Roof} (hb : (1 ≤ r.w ∧ r.w ≤ 8) ∧ (1 ≤ r.h ∧ r.h ≤ 8) ∧ r.s ≤ 1) (w : Nat → Int) (b : Int) : MdOk r w b 0 :=
  ⟨by have := allP_len hb (wrB r); show 0 + (wrP r).length ≤ 64; unfold wrP; omega, fun j hj => by omega⟩
theorem MdOk.next {r : Roof} (hb : (1 ≤ r.w ∧ r.w ≤ 8) ∧ (1 ≤ r.h ∧ r.h ≤ 8) ∧ r.s ≤ 1) {w : Nat → Int} (hw : ∀ c, c < 17 → 0 ≤ w c ∧ w c ≤ 1000) {b : Int} (hb0 : 0 ≤ b) {n : Nat} (h : MdOk r w b n) (hd : b < dsI (mdR r w n) w) :
    0 < (wrP (mdR r w n)).length ∧ MdOk r w b (n + 1) := by
  have hne := wrP_ne (r := mdR r w n) hw (by simpa using hb) (by omega)
  refine ⟨hne, ?_, fun j hj => ?_⟩
  · have := wrP_drop (bwP_mem (w := w) hne)
    have h1 := h.le
    simp only [mdR]
    omega
  · by_cases hjn : j = n
    · subst hjn; exact hd
    · exact h.no j (by omega)
end Go.V
/- Contracts: whether rain is valid, how much drips in all, both sides. -/
set_option linter.unusedVariables false
set_option linter.unusedSimpArgs false
namespace Go.V
/- Words for the walks of this text: their default arguments are tried where they are used. -/
theorem go_E2 {P Q : Prop} (k : Q) (h : P := by first | exact Nat.le_of_ble_eq_true rfl | exact rfl | decide | omega | (simp [splice]; done) | (constructor <;> omega) | (simp [splice]; omega)) : P ∧ Q := ⟨h, k⟩
theorem lk_E2 {α : Type} {o : Option α} {K : α → Prop} {x : α} (k : K x) (h : o = some x := by first | exact raiA (by omega) | exact raiA' (by omega) | exact watA (by omega) | exact watA' (by omega) | exact dripA (by omega) (by omega) | exact roofN (by omega) (by omega) | exact gridN (by omega) (by omega) | exact intA (by omega) | exact intA' (by omega)) : optK o K := optK_of h k
theorem sc_E2 {P : Program} {g : FuncId} {args args' : List D} {res : D} (h : Sat P g args res) (e : args' = args := by repeat (first | rfl | exact vfull (by first | (simp [splice]; done) | (simp [splice]; omega)) | exact rfull (by first | (simp [splice]; done) | (simp [splice]; omega)) | exact vdrow (by simp; done) (by omega) | exact vrows (by omega) | exact vplace (by simp; done) (by omega) | exact vrow (by simp; done) (by omega) | exact vtiles (by simp) | exact vsplice (by simp) (by simp) | refine ceq ?_ ?_ | refine Eq.trans (vsplice (by first | (simp; done) | (simp; omega)) (by first | (simp; done) | (simp; omega))) ?_)) : Sat P g args' res := Sat.of_eq h e
theorem leaf_E2 {P : Prop} (h : P := by first | rfl | exact succ8 (by omega) | exact succ64 (by omega) | exact CapOk.fn (by assumption) _ _ | exact vintS (by omega) | exact vintS (by rw [w64 (by omega) (by omega)]; omega) | exact vintS (by rw [w8 (by omega) (by omega)]; omega) | exact vslcS (by omega) | exact vslcS (by simp)) : P := h
theorem hold_E2 {P : Prop} (h : P := by (repeat' (first | exact trivial | apply And.intro)) <;> (first | rfl | exact succ8 (by omega) | exact succ64 (by omega) | exact CapOk.fn (by assumption) _ _ | exact vintS (by omega) | exact vintS (by rw [w64 (by omega) (by omega)]; omega) | exact vintS (by rw [w8 (by omega) (by omega)]; omega) | exact vslcS (by omega) | exact vslcS (by simp))) : P := h
theorem okt_E2 {P : Prop} (h : P := by first | omega | (dsimp only; omega) | ((repeat' apply And.intro) <;> omega) | (dsimp only; (repeat' apply And.intro) <;> omega) | trivial) : P := h
end Go.V
namespace Go.V
theorem drip_row {f : Nat → Nat → Int} {o i : Nat} (ho : o = i * 17) (hi : i < 8) : ((dripC f).drop o).take 17 = watC (f i) := by
  subst ho
  unfold dripC watC
  rw [tab_sub (by omega)]
  exact tab_congr fun c hc => by rw [show (i * 17 + c) / 17 = i by omega, show (i * 17 + c) % 17 = c by omega]
def rowsC (f : Nat → Nat → Int) (n : Nat) : List Value := ((dripC f).drop 0).take (n * 17)
def rowsD (f : Nat → Nat → Int) (n : Nat) : D := .row false 17 (.v (.agg ⟨rowsC f n⟩)) n
@[simp] theorem rowsC_len {f : Nat → Nat → Int} {n : Nat} (h : n ≤ 8) : (rowsC f n).length = n * 17 := by unfold rowsC; simp; omega
theorem rows_row {f : Nat → Nat → Int} {o n i : Nat} (ho : o = i * 17) (hi : i < n) (hn : n ≤ 8) : ((rowsC f n).drop o).take 17 = watC (f i) := by
  unfold rowsC
  rw [List.drop_zero, List.drop_take, List.take_take, show min 17 (n * 17 - o) = 17 by omega]
  exact drip_row ho (by omega)
theorem vdrow {f : Nat → Nat → Int} {o n i : Nat} (ho : o = i * 17) (hi : i < n ∧ n ≤ 8) : D.v (.agg ⟨((rowsC f n).drop o).take 17⟩) = watD (f i) := by rw [rows_row ho hi.1 hi.2]; rfl
theorem vrows {f : Nat → Nat → Int} {a b n : Nat} (h : a = n * 17 ∧ b = n) : D.row false 17 (.v (.agg ⟨((dripC f).drop 0).take a⟩)) b = rowsD f n := by rw [h.1, h.2]; rfl
def qL (q : Nat → Int) (n : Nat) : List Int := (List.range n).map q
@[simp] theorem qL_len (q : Nat → Int) (n : Nat) : (qL q n).length = n := by simp [qL]
theorem qL_next (q : Nat → Int) (n : Nat) : qL q (n + 1) = qL q n ++ [q n] := by simp [qL, List.range_succ]
theorem qL_ix {q : Nat → Int} {n i : Nat} (h : i < n) : ix (qL q n) i = q i := by
  unfold ix qL
  rw [List.getD_eq_getElem?_getD]; simp [h]
end Go.V
namespace Go.Proofs.Ytejncabmppobfaa
open Go.V
theorem l02Amount_sat (n : Int) : Sat Try.prog 97 [.v (.int .i64 n)] (.v (.bool (deepB n))) := by
  refine sat_of_wp hMix tOk Try.func97 rfl rfl Try.ntmps97 rfl rfl Try.results97 (by kernel_rfl) ?_
  conv => whnf
  repeat (first | (refine go_E2 ?_; conv => whnf) | (refine lk_E2 ?_; conv => whnf))
  first | refine ⟨_, _, rfl, sc_E2 (l00In_sat n 0 1000), ?_⟩ | refine .inl ⟨_, _, rfl, sc_E2 (l00In_sat n 0 1000), ?_⟩
  conv => whnf
  repeat (first | (refine go_E2 ?_; conv => whnf) | (refine lk_E2 ?_; conv => whnf))
  first | refine ⟨rfl, _, rfl, ?_⟩ | refine ⟨_, rfl, ?_⟩
  rfl
theorem isAmount16_sat (n : Int) (hn : -32768 ≤ n ∧ n ≤ 32767) : Sat Try.prog 150 [.v (.int .i16 n)] (.v (.bool (deepB n))) := by
  refine sat_of_wp hMix tOk Try.func150 rfl rfl Try.ntmps150 rfl rfl Try.results150 (by kernel_rfl) ?_
  conv => whnf
  repeat (first | (refine go_E2 ?_; conv => whnf) | (refine lk_E2 ?_; conv => whnf))
  rw [show IntKind.i64.wrap n = n from w64 (by omega) (by omega)]
  first | refine ⟨_, _, rfl, sc_E2 (within64_sat n 0 1000), ?_⟩ | refine .inl ⟨_, _, rfl, sc_E2 (within64_sat n 0 1000), ?_⟩
  conv => whnf
  repeat (first | (refine go_E2 ?_; conv => whnf) | (refine lk_E2 ?_; conv => whnf))
  first | refine ⟨rfl, _, rfl, ?_⟩ | refine ⟨_, rfl, ?_⟩
  rfl
theorem l02Ok_sat (r : Roof) (hr : r.In) (w : Nat → Int) (hw : RaiIn w) : Sat Try.prog 55 [.ref false (roofD r) 0, .ref false (raiD w) 0] (.v (.bool (okN r w))) := by
  refine sat_of_wp hMix tOk Try.func55 rfl rfl Try.ntmps55 rfl rfl Try.results55 (by kernel_rfl) ?_
  conv => whnf
  repeat (first | (refine go_E2 ?_; conv => whnf) | (refine lk_E2 ?_; conv => whnf))
  first | refine ⟨_, _, rfl, sc_E2 (l01Ok_sat r hr), ?_⟩ | refine .inl ⟨_, _, rfl, sc_E2 (l01Ok_sat r hr), ?_⟩
  conv => whnf
  repeat (first | (refine go_E2 ?_; conv => whnf) | (refine lk_E2 ?_; conv => whnf))
  cases hR : okR r
  · rw [show okN r w = false by unfold okN; rw [hR]; rfl]
    conv => whnf
    repeat (first | (refine go_E2 ?_; conv => whnf) | (refine lk_E2 ?_; conv => whnf))
    first | refine ⟨rfl, _, rfl, ?_⟩ | refine ⟨_, rfl, ?_⟩
    rfl
  have hb := okR_bounds hR
  conv => whnf
  repeat (first | (refine go_E2 ?_; conv => whnf) | (refine lk_E2 ?_; conv => whnf))
  refine loop_rule (α := Nat) (fun c => [(0, .ref false (roofD r) 0), (1, .ref false (raiD w) 0), (5, .v (.int .i64 c))]) (fun c => []) (fun c => c ≤ 17 ∧ ∀ j, j < c → rnB r w j = true) (fun c => 17 - c) (0) ?_ (sim_of (rn := []) rfl ?_ ?_) ?_
  · exact ⟨by omega, fun j hj => by omega⟩
  · exact hold_E2
  · ((repeat' (first | exact trivial | apply And.intro)) <;> ((first | refine ⟨_, _, rfl, rfl, ?_⟩ ); rfl))
  rintro c ⟨hc, hall⟩
  conv => whnf
  repeat (first | (refine go_E2 ?_; conv => whnf) | (refine lk_E2 ?_; conv => whnf))
  cases h1 : decide ((c : Int) < 17)
  · have hc17 : c = 17 := by simp at h1; omega
    subst hc17
    rw [okN_yes hR hall]
    conv => whnf
    repeat (first | (refine go_E2 ?_; conv => whnf) | (refine lk_E2 ?_; conv => whnf))
    first | refine ⟨rfl, _, rfl, ?_⟩ | refine ⟨_, rfl, ?_⟩
    rfl
  have hc17 : c < 17 := by simp at h1; omega
  have hwc := hw.t c
  have hsp : rnB r w c = (deepB (w c) && !(decide ((c : Int) ≥ 2 * r.w + 1) && w c != 0)) := rfl
  have nxt : rnB r w c = true → c + 1 ≤ 17 ∧ ∀ j, j < c + 1 → rnB r w j = true := fun h => ⟨by omega, below_succ hall h⟩
  conv => whnf
  repeat (first | (refine go_E2 ?_; conv => whnf) | (refine lk_E2 ?_; conv => whnf))
  rw [show IntKind.i64.wrap (w c) = w c from w64 (by omega) (by omega)]
  first | refine ⟨_, _, rfl, sc_E2 (l02Amount_sat (w c)), ?_⟩ | refine .inl ⟨_, _, rfl, sc_E2 (l02Amount_sat (w c)), ?_⟩
  conv => whnf
  repeat (first | (refine go_E2 ?_; conv => whnf) | (refine lk_E2 ?_; conv => whnf))
  cases h2 : deepB (w c)
  · rw [okN_no hc17 (by rw [hsp, h2]; rfl)]
    conv => whnf
    repeat (first | (refine go_E2 ?_; conv => whnf) | (refine lk_E2 ?_; conv => whnf))
    first | refine ⟨rfl, _, rfl, ?_⟩ | refine ⟨_, rfl, ?_⟩
    rfl
  conv => whnf
  repeat (first | (refine go_E2 ?_; conv => whnf) | (refine lk_E2 ?_; conv => whnf))
  first | refine ⟨_, _, rfl, sc_E2 (l01Cells_sat r hr hb), ?_⟩ | refine .inl ⟨_, _, rfl, sc_E2 (l01Cells_sat r hr hb), ?_⟩
  conv => whnf
  repeat (first | (refine go_E2 ?_; conv => whnf) | (refine lk_E2 ?_; conv => whnf))
  cases h3 : decide ((c : Int) ≥ 2 * r.w + 1)
  · conv => whnf
    repeat (first | (refine go_E2 ?_; conv => whnf) | (refine lk_E2 ?_; conv => whnf))
    refine ⟨c + 1, ?_, ?_, sim_of (rn := []) rfl ?_ ?_⟩
    · (dsimp only; omega)
    · exact nxt (by rw [hsp, h2, h3]; rfl)
    · exact hold_E2
    · ((repeat' (first | exact trivial | apply And.intro)) <;> ((first | refine ⟨_, _, rfl, rfl, ?_⟩ ); rfl))
  conv => whnf
  repeat (first | (refine go_E2 ?_; conv => whnf) | (refine lk_E2 ?_; conv => whnf))
  cases h4 : (w c != 0)
  · conv => whnf
    repeat (first | (refine go_E2 ?_; conv => whnf) | (refine lk_E2 ?_; conv => whnf))
    refine ⟨c + 1, ?_, ?_, sim_of (rn := []) rfl ?_ ?_⟩
    · (dsimp only; omega)
    · exact nxt (by rw [hsp, h2, h3, h4]; rfl)
    · exact hold_E2
    · ((repeat' (first | exact trivial | apply And.intro)) <;> ((first | refine ⟨_, _, rfl, rfl, ?_⟩ ); rfl))
  rw [okN_no hc17 (by rw [hsp, h2, h3, h4]; rfl)]
  conv => whnf
  repeat (first | (refine go_E2 ?_; conv => whnf) | (refine lk_E2 ?_; conv => whnf))
  first | refine ⟨rfl, _, rfl, ?_⟩ | refine ⟨_, rfl, ?_⟩
  rfl
theorem validRain_sat (r : Roof) (hr : r.In) (w : Nat → Int) (hw : RaiIn w) : Sat Try.prog 129 [roofD r, raiD w] (.v (.bool (okN r w))) := by
  refine sat_of_wp hMix tOk Try.func129 rfl rfl Try.ntmps129 rfl rfl Try.results129 (by kernel_rfl) ?_
  conv => whnf
  repeat (first | (refine go_E2 ?_; conv => whnf) | (refine lk_E2 ?_; conv => whnf))
  first | refine ⟨_, _, rfl, sc_E2 (validRoof_sat r hr), ?_⟩ | refine .inl ⟨_, _, rfl, sc_E2 (validRoof_sat r hr), ?_⟩
  conv => whnf
  repeat (first | (refine go_E2 ?_; conv => whnf) | (refine lk_E2 ?_; conv => whnf))
  cases hR : okR r
  · rw [show okN r w = false by unfold okN; rw [hR]; rfl]
    conv => whnf
    repeat (first | (refine go_E2 ?_; conv => whnf) | (refine lk_E2 ?_; conv => whnf))
    first | refine ⟨rfl, _, rfl, ?_⟩ | refine ⟨_, rfl, ?_⟩
    rfl
  have hb := okR_bounds hR
  conv => whnf
  repeat (first | (refine go_E2 ?_; conv => whnf) | (refine lk_E2 ?_; conv => whnf))
  refine loop_rule (α := Nat) (fun c => [(2, .ptr (2, 0, 0) 0), (10, .v (.agg ⟨raiC w⟩)), (11, .v (.int .i64 c))]) (fun c => [((2, 0, 0), roofD r)]) (fun c => c ≤ 17 ∧ ∀ j, j < c → rnB r w j = true) (fun c => 17 - c) (0) ?_ (sim_of (rn := [((2, 0, 0), (2, 0, 0))]) rfl ?_ ?_) ?_
  · exact ⟨by omega, fun j hj => by omega⟩
  · ((repeat' (first | exact trivial | apply And.intro)) <;> (first | rfl | (first | exact cset (take_drop0 (by simp)).symm | exact cset (take_drop0 (by simp))) | exact leaf_E2))
  · ((repeat' (first | exact trivial | apply And.intro)) <;> ((first | refine ⟨_, _, rfl, rfl, ?_⟩ ); rfl))
  rintro c ⟨hc, hall⟩
  conv => whnf
  repeat (first | (refine go_E2 ?_; conv => whnf) | (refine lk_E2 ?_; conv => whnf))
  cases h1 : decide ((c : Int) < 17)
  · have hc17 : c = 17 := by simp at h1; omega
    subst hc17
    rw [okN_yes hR hall]
    conv => whnf
    repeat (first | (refine go_E2 ?_; conv => whnf) | (refine lk_E2 ?_; conv => whnf))
    first | refine ⟨rfl, _, rfl, ?_⟩ | refine ⟨_, rfl, ?_⟩
    rfl
  have hc17 : c < 17 := by simp at h1; omega
  have hwc := hw.t c
  have hsp : rnB r w c = (deepB (w c) && !(decide ((c : Int) ≥ 2 * r.w + 1) && w c != 0)) := rfl
  have nxt : rnB r w c = true → c + 1 ≤ 17 ∧ ∀ j, j < c + 1 → rnB r w j = true := fun h => ⟨by omega, below_succ hall h⟩
  conv => whnf
  repeat (first | (refine go_E2 ?_; conv => whnf) | (refine lk_E2 ?_; conv => whnf))
  first | refine ⟨_, _, rfl, sc_E2 (isAmount16_sat (w c) hwc), ?_⟩ | refine .inl ⟨_, _, rfl, sc_E2 (isAmount16_sat (w c) hwc), ?_⟩
  conv => whnf
  repeat (first | (refine go_E2 ?_; conv => whnf) | (refine lk_E2 ?_; conv => whnf))
  cases h2 : deepB (w c)
  · rw [okN_no hc17 (by rw [hsp, h2]; rfl)]
    conv => whnf
    repeat (first | (refine go_E2 ?_; conv => whnf) | (refine lk_E2 ?_; conv => whnf))
    first | refine ⟨rfl, _, rfl, ?_⟩ | refine ⟨_, rfl, ?_⟩
    rfl
  conv => whnf
  repeat (first | (refine go_E2 ?_; conv => whnf) | (refine lk_E2 ?_; conv => whnf))
  cases h4 : (w c != 0)
  · conv => whnf
    repeat (first | (refine go_E2 ?_; conv => whnf) | (refine lk_E2 ?_; conv => whnf))
    refine ⟨c + 1, ?_, ?_, sim_of (rn := [((2, 0, 0), (2, 0, 0))]) rfl ?_ ?_⟩
    · (dsimp only; omega)
    · exact nxt (by rw [hsp, h2, h4, Bool.and_false]; rfl)
    · exact hold_E2
    · ((repeat' (first | exact trivial | apply And.intro)) <;> ((first | refine ⟨_, _, rfl, rfl, ?_⟩ ); rfl))
  conv => whnf
  repeat (first | (refine go_E2 ?_; conv => whnf) | (refine lk_E2 ?_; conv => whnf))
  first | refine ⟨_, _, rfl, sc_E2 (cells_sat r hr hb), ?_⟩ | refine .inl ⟨_, _, rfl, sc_E2 (cells_sat r hr hb), ?_⟩
  conv => whnf
  repeat (first | (refine go_E2 ?_; conv => whnf) | (refine lk_E2 ?_; conv => whnf))
  cases h3 : decide ((c : Int) ≥ 2 * r.w + 1)
  · conv => whnf
    repeat (first | (refine go_E2 ?_; conv => whnf) | (refine lk_E2 ?_; conv => whnf))
    refine ⟨c + 1, ?_, ?_, sim_of (rn := [((2, 0, 0), (2, 0, 0))]) rfl ?_ ?_⟩
    · (dsimp only; omega)
    · exact nxt (by rw [hsp, h2, h3]; rfl)
    · exact hold_E2
    · ((repeat' (first | exact trivial | apply And.intro)) <;> ((first | refine ⟨_, _, rfl, rfl, ?_⟩ ); rfl))
  rw [okN_no hc17 (by rw [hsp, h2, h3, h4]; rfl)]
  conv => whnf
  repeat (first | (refine go_E2 ?_; conv => whnf) | (refine lk_E2 ?_; conv => whnf))
  first | refine ⟨rfl, _, rfl, ?_⟩ | refine ⟨_, rfl, ?_⟩
  rfl
def rnK (r : Roof) (w : Nat → Int) (b : Bool) : Int := if okN r w = true then (if b = true then 0 else 2) else 1
theorem rainCode_sat (r : Roof) (hr : r.In) (w : Nat → Int) (hw : RaiIn w) (b : Bool) : Sat Try.prog 89 [roofD r, raiD w, .v (.bool b)] (.v (.int .i64 (rnK r w b))) := by
  refine sat_of_wp hMix tOk Try.func89 rfl rfl Try.ntmps89 rfl rfl Try.results89 (by kernel_rfl) ?_
  conv => whnf
  repeat (first | (refine go_E2 ?_; conv => whnf) | (refine lk_E2 ?_; conv => whnf))
  first | refine ⟨_, _, rfl, sc_E2 (validRain_sat r hr w hw), ?_⟩ | refine .inl ⟨_, _, rfl, sc_E2 (validRain_sat r hr w hw), ?_⟩
  conv => whnf
  repeat (first | (refine go_E2 ?_; conv => whnf) | (refine lk_E2 ?_; conv => whnf))
  cases h : okN r w
  · rw [show rnK r w b = 1 by unfold rnK; rw [h]; rfl]
    conv => whnf
    repeat (first | (refine go_E2 ?_; conv => whnf) | (refine lk_E2 ?_; conv => whnf))
    first | refine ⟨rfl, _, rfl, ?_⟩ | refine ⟨_, rfl, ?_⟩
    rfl
  cases b
  · rw [show rnK r w false = 2 by unfold rnK; rw [h]; rfl]
    conv => whnf
    repeat (first | (refine go_E2 ?_; conv => whnf) | (refine lk_E2 ?_; conv => whnf))
    first | refine ⟨rfl, _, rfl, ?_⟩ | refine ⟨_, rfl, ?_⟩
    rfl
  rw [show rnK r w true = 0 by unfold rnK; rw [h]; rfl]
  conv => whnf
  repeat (first | (refine go_E2 ?_; conv => whnf) | (refine lk_E2 ?_; conv => whnf))
  first | refine ⟨rfl, _, rfl, ?_⟩ | refine ⟨_, rfl, ?_⟩
  rfl
theorem sum32_sat (p : Nat → Int) (hp : ∀ i, i < 17 → 0 ≤ p i ∧ p i ≤ 1000) (m : Bool) : Sat Try.prog 146 [.row m 1 (.v (.agg ⟨watC p⟩)) 17] (.v (.int .i64 (smT p 17))) := by
  have hb := fun i hi => smT_in (b := 1000) (m := 17) hp i hi
  refine sat_of_wp hMix tOk Try.func146 rfl rfl Try.ntmps146 rfl rfl Try.results146 (by kernel_rfl) ?_
  conv => whnf
  repeat (first | (refine go_E2 ?_; conv => whnf) | (refine lk_E2 ?_; conv => whnf))
  refine loop_rule (α := Nat) (fun i => [(3, .v (.int .i64 (smT p i))), (6, .row m 1 (.v (.agg ⟨watC p⟩)) 17), (7, .v (.int .i64 17)), (8, .v (.int .i64 i))]) (fun i => []) (fun i => i ≤ 17) (fun i => 17 - i) (0) ?_ (sim_of (rn := []) rfl ?_ ?_) ?_
  · exact okt_E2
  · exact hold_E2
  · ((repeat' (first | exact trivial | apply And.intro)) <;> ((first | refine ⟨_, _, rfl, rfl, ?_⟩ ); rfl))
  intro i hi
  conv => whnf
  repeat (first | (refine go_E2 ?_; conv => whnf) | (refine lk_E2 ?_; conv => whnf))
  cases h4 : decide ((i : Int) < 17)
  · have h8 : i = 17 := by simp at h4; omega
    subst h8
    conv => whnf
    repeat (first | (refine go_E2 ?_; conv => whnf) | (refine lk_E2 ?_; conv => whnf))
    first | refine ⟨rfl, _, rfl, ?_⟩ | refine ⟨_, rfl, ?_⟩
    rfl
  have h8 : i < 17 := by simp at h4; omega
  have h1 := hb i hi
  have h2 := hp i h8
  conv => whnf
  repeat (first | (refine go_E2 ?_; conv => whnf) | (refine lk_E2 ?_; conv => whnf))
  have e : smT p (i + 1) = IntKind.i64.wrap (smT p i + IntKind.i64.wrap (p i)) := by rw [w64 (n := p i) (by omega) (by omega), w64 (by omega) (by omega)]; rfl
  refine ⟨i + 1, ?_, ?_, sim_of (rn := []) rfl ?_ ?_⟩
  · (dsimp only; omega)
  · exact okt_E2
  · ((repeat' (first | exact trivial | apply And.intro)) <;> (first | rfl | (exact vintS e) | exact leaf_E2))
  · ((repeat' (first | exact trivial | apply And.intro)) <;> ((first | refine ⟨_, _, rfl, rfl, ?_⟩ ); rfl))
theorem sumI_sat (p : Nat → Int) (n : Nat) (hn : n ≤ 1000) (hp : ∀ i, i < n → 0 ≤ p i ∧ p i ≤ 17000) (m : Bool) : Sat Try.prog 109 [intsD m (qL p n)] (.v (.int .i64 (smT p n))) := by
  have hb := fun i hi => smT_in (b := 17000) (m := n) hp i hi
  refine sat_of_wp hMix tOk Try.func109 rfl rfl Try.ntmps109 rfl rfl Try.results109 (by kernel_rfl) ?_
  conv => whnf
  repeat (first | (refine go_E2 ?_; conv => whnf) | (refine lk_E2 ?_; conv => whnf))
  refine loop_rule (α := Nat) (fun i => [(3, .v (.int .i64 (smT p i))), (6, intsD m (qL p n)), (7, .v (.int .i64 n)), (8, .v (.int .i64 i))]) (fun i => []) (fun i => i ≤ n) (fun i => n - i) (0) ?_ (sim_of (rn := []) rfl ?_ ?_) ?_
  · exact okt_E2
  · ((repeat' (first | exact trivial | apply And.intro)) <;> (first | rfl | (exact vintS (by simp)) | exact leaf_E2))
  · ((repeat' (first | exact trivial | apply And.intro)) <;> ((first | refine ⟨_, _, rfl, rfl, ?_⟩ ); rfl))
  intro i hi
  conv => whnf
  repeat (first | (refine go_E2 ?_; conv => whnf) | (refine lk_E2 ?_; conv => whnf))
  cases h4 : decide ((i : Int) < (n : Int))
  · have h8 : i = n := by simp at h4; omega
    subst h8
    conv => whnf
    repeat (first | (refine go_E2 ?_; conv => whnf) | (refine lk_E2 ?_; conv => whnf))
    first | refine ⟨rfl, _, rfl, ?_⟩ | refine ⟨_, rfl, ?_⟩
    rfl
  have h8 : i < n := by simp at h4; omega
  have h1 := hb i hi
  have h2 := hp i h8
  have h3 : i * 17000 ≤ 1000 * 17000 := Nat.mul_le_mul (by omega) (by omega)
  have hl : i < (qL p n).length := by simpa using h8
  conv => whnf
  repeat (first | (refine go_E2 ?_; conv => whnf) | (refine lk_E2 ?_; conv => whnf))
  rw [qL_ix h8]
  have e : smT p (i + 1) = IntKind.i64.wrap (smT p i + p i) := by rw [w64 (by omega) (by omega)]; rfl
  refine ⟨i + 1, ?_, ?_, sim_of (rn := []) rfl ?_ ?_⟩
  · (dsimp only; omega)
  · exact okt_E2
  · ((repeat' (first | exact trivial | apply And.intro)) <;> (first | rfl | (exact vintS e) | exact leaf_E2))
  · ((repeat' (first | exact trivial | apply And.intro)) <;> ((first | refine ⟨_, _, rfl, rfl, ?_⟩ ); rfl))
theorem courses1_sat (p : Nat → Int) (hp : ∀ i, i < 17 → 0 ≤ p i ∧ p i ≤ 1000) : Sat Try.prog 145 [watD p] (.v (.int .i64 (smT p 17))) := by
  refine sat_of_wp hMix tOk Try.func145 rfl rfl Try.ntmps145 rfl rfl Try.results145 (by kernel_rfl) ?_
  conv => whnf
  refine ⟨⟨by decide, by decide, by decide, by show 0 + 17 * 1 ≤ (watC p).length; rw [watC_len]; omega⟩, ?_⟩
  conv => whnf
  repeat (first | (refine go_E2 ?_; conv => whnf) | (refine lk_E2 ?_; conv => whnf))
  first | refine ⟨_, _, rfl, sc_E2 (sum32_sat p hp false), ?_⟩ | refine .inl ⟨_, _, rfl, sc_E2 (sum32_sat p hp false), ?_⟩
  conv => whnf
  repeat (first | (refine go_E2 ?_; conv => whnf) | (refine lk_E2 ?_; conv => whnf))
  first | refine ⟨rfl, _, rfl, ?_⟩ | refine ⟨_, rfl, ?_⟩
  rfl
theorem eachR_sat {g : Nat} {caps : List D} {q : Nat → Int} {f : Nat → Nat → Int} (n : Nat) (hn : n ≤ 8) (hc : CapOk caps) (hg : ∀ i, i < n → Sat Try.prog g (watD (f i) :: caps) (.v (.int .i64 (q i)))) :
    Sat Try.prog 144 [rowsD f n, .fn (.func g) [] caps] (intsD true (qL q n)) := by
  refine satN_of_wp hMix tOk Try.func144 rfl rfl Try.ntmps144 rfl rfl Try.results144 (by kernel_rfl) ?_
  conv => whnf
  repeat (first | (refine go_E2 ?_; conv => whnf) | (refine lk_E2 ?_; conv => whnf))
  refine loop_rule (α := Nat) (fun i => [(1, .fn (.func g) [] caps), (5, .slc true 1 (19, 0, 0) 0 i), (8, rowsD f n), (9, .v (.int .i64 n)), (10, .v (.int .i64 i))]) (fun i => [((19, 0, 0), .v (.agg ⟨intsC (qL q i)⟩))]) (fun i => i ≤ n) (fun i => n - i) (0) ?_ (sim_of (rn := [((19, 0, 0), nilId)]) rfl ?_ ?_) ?_
  · exact okt_E2
  · exact hold_E2
  · ((repeat' (first | exact trivial | apply And.intro)) <;> ((first | refine ⟨_, _, rfl, rfl, ?_⟩ ); first | rfl | ((exact cset (show [] = intsC [] from intsC_nil.symm)))))
  intro i hi
  have hl := rowsC_len (f := f) hn
  have hq := qL_len q i
  conv => whnf
  repeat (first | (refine go_E2 ?_; conv => whnf) | (refine lk_E2 ?_; conv => whnf))
  cases h : decide ((i : Int) < (n : Int))
  · have hin : i = n := by simp at h; omega
    subst hin
    unfold intsD
    rw [hq]
    conv => whnf
    repeat (first | (refine go_E2 ?_; conv => whnf) | (refine lk_E2 ?_; conv => whnf))
    first | refine ⟨rfl, _, rfl, [_], rfl, ?_, rfl⟩ | refine ⟨_, rfl, [_], rfl, ?_, rfl⟩
    ((repeat' (first | exact trivial | apply And.intro)) <;> first | exact .inl rfl | exact .inr ⟨rfl, rfl⟩)
  have hin : i < n := by simpa using h
  conv => whnf
  repeat (first | (refine go_E2 ?_; conv => whnf) | (refine lk_E2 ?_; conv => whnf))
  first | refine ⟨_, _, CapOk.one (by assumption) rfl, sc_E2 (hg i hin), ?_⟩ | refine .inl ⟨_, _, CapOk.one (by assumption) rfl, sc_E2 (hg i hin), ?_⟩
  conv => whnf
  repeat (first | (refine go_E2 ?_; conv => whnf) | (refine lk_E2 ?_; conv => whnf))
  have e2 : intsC (qL q i) ++ [.int .i64 (q i)] = intsC (qL q (i + 1)) := by rw [qL_next, intsC_append, intsC_one]
  refine ⟨i + 1, ?_, ?_, sim_of (rn := [((19, 0, 0), (19, 1, 0))]) rfl ?_ ?_⟩
  · (dsimp only; omega)
  · exact okt_E2
  · ((repeat' (first | exact trivial | apply And.intro)) <;> (first | rfl | (exact vslcS (by omega)) | exact leaf_E2))
  · ((repeat' (first | exact trivial | apply And.intro)) <;> ((first | refine ⟨_, _, rfl, rfl, ?_⟩ ); first | rfl | (exact cset e2)))
theorem courses_sat (r : Roof) (hr : r.In) (hh : 0 ≤ r.h ∧ r.h ≤ 8) (f : Nat → Nat → Int) (hf : InM f) : Sat Try.prog 123 [roofD r, dripD f] (intsD true (qL (fun i => smT (f i) 17) r.h.toNat)) := by
  refine satN_of_wp hMix tOk Try.func123 rfl rfl Try.ntmps123 rfl rfl Try.results123 (by kernel_rfl) ?_
  conv => whnf
  refine ⟨⟨by decide, by show 0 ≤ r.h; omega, by show r.h ≤ 8; omega, by show 0 + 8 * 17 ≤ (dripC f).length; rw [dripC_len]; omega⟩, ?_⟩
  conv => whnf
  repeat (first | (refine go_E2 ?_; conv => whnf) | (refine lk_E2 ?_; conv => whnf))
  first | refine ⟨_, _, rfl, sc_E2 (eachR_sat (f := f) (q := fun i => smT (f i) 17) (caps := []) (g := 145) r.h.toNat (by omega) CapOk.nil fun i hi => courses1_sat (f i) fun c hc => hf i c hc), ?_⟩ | refine .inl ⟨_, _, rfl, sc_E2 (eachR_sat (f := f) (q := fun i => smT (f i) 17) (caps := []) (g := 145) r.h.toNat (by omega) CapOk.nil fun i hi => courses1_sat (f i) fun c hc => hf i c hc), ?_⟩
  conv => whnf
  repeat (first | (refine go_E2 ?_; conv => whnf) | (refine lk_E2 ?_; conv => whnf))
  first | refine ⟨rfl, _, rfl, [_], rfl, ?_, rfl⟩ | refine ⟨_, rfl, [_], rfl, ?_, rfl⟩
  ((repeat' (first | exact trivial | apply And.intro)) <;> first | exact .inl rfl | exact .inr ⟨rfl, rfl⟩)
end Go.Proofs.Ytejncabmppobfaa
/- Contracts: how much drips in all and how much a whole tile saves, both sides. -/
set_option linter.unusedVariables false
set_option linter.unusedSimpArgs false
namespace Go.V
/- Words for the walks of this text: their default arguments are tried where they are used. -/
theorem go_E3 {P Q : Prop} (k : Q) (h : P := by first | exact Nat.le_of_ble_eq_true rfl | exact rfl | decide | omega | (simp [splice]; done) | (constructor <;> omega) | (simp [splice]; omega)) : P ∧ Q := ⟨h, k⟩
theorem lk_E3 {α : Type} {o : Option α} {K : α → Prop} {x : α} (k : K x) (h : o = some x := by first | exact raiA (by omega) | exact raiA' (by omega) | exact watA (by omega) | exact watA' (by omega) | exact dripA (by omega) (by omega) | exact roofN (by omega) (by omega) | exact gridN (by omega) (by omega) | exact intA (by omega) | exact intA' (by omega) | exact placeA (by omega) | exact placeB (by omega) | exact placeA' (by omega) | exact placeB' (by omega)) : optK o K := optK_of h k
theorem sc_E3 {P : Program} {g : FuncId} {args args' : List D} {res : D} (h : Sat P g args res) (e : args' = args := by repeat (first | rfl | exact vfull (by first | (simp [splice]; done) | (simp [splice]; omega)) | exact rfull (by first | (simp [splice]; done) | (simp [splice]; omega)) | exact vfnR | exact vrefput (by simp) (by simp) hc hk | exact vdrow (by simp; done) (by omega) | exact vrows (by omega) | exact vplace (by simp; done) (by omega) | exact vrow (by simp; done) (by omega) | exact vtiles (by simp) | exact vsplice (by simp) (by simp) | refine ceq ?_ ?_ | refine Eq.trans (vsplice (by first | (simp; done) | (simp; omega)) (by first | (simp; done) | (simp; omega))) ?_)) : Sat P g args' res := Sat.of_eq h e
theorem leaf_E3 {P : Prop} (h : P := by first | rfl | exact succ8 (by omega) | exact succ64 (by omega) | exact CapOk.fn (by assumption) _ _ | exact vintS (by omega) | exact vintS (by rw [w64 (by omega) (by omega)]; omega) | exact vintS (by rw [w8 (by omega) (by omega)]; omega) | exact vslcS (by omega) | exact vslcS (by simp)) : P := h
theorem hold_E3 {P : Prop} (h : P := by (repeat' (first | exact trivial | apply And.intro)) <;> (first | rfl | exact succ8 (by omega) | exact succ64 (by omega) | exact CapOk.fn (by assumption) _ _ | exact vintS (by omega) | exact vintS (by rw [w64 (by omega) (by omega)]; omega) | exact vintS (by rw [w8 (by omega) (by omega)]; omega) | exact vslcS (by omega) | exact vslcS (by simp))) : P := h
theorem okt_E3 {P : Prop} (h : P := by first | omega | (dsimp only; omega) | ((repeat' apply And.intro) <;> omega) | (dsimp only; (repeat' apply And.intro) <;> omega) | trivial) : P := h
end Go.V
namespace Go.V
abbrev W1 (w : Nat → Int) : Prop := ∀ c, c < 17 → 0 ≤ w c ∧ w c ≤ 1000
abbrev Rb (r : Roof) : Prop := (1 ≤ r.w ∧ r.w ≤ 8) ∧ (1 ≤ r.h ∧ r.h ≤ 8) ∧ r.s ≤ 1
theorem vfnR {f : Fn} {r : Roof} : D.fn f [.v (.agg ⟨((roofC r).drop 0).take 67⟩)] [] = D.fn f [roofD r] [] := by
  rw [take_drop0 (by simp)]; rfl
theorem vrefput {r : Roof} {c k o : Nat} {x : Int} {xs : List Value} (hx : xs.length = 67) (ho : o = 3 + c * 8 + k) (hc : c < 8) (hk : k < 8) :
    D.ref false (.v (.agg ⟨(splice xs 0 (((roofC r).drop 0).take 67)).set o (.int .u8 x)⟩)) 0 = .ref false (roofD (putR r c k x)) 0 := by
  rw [take_drop0 (by simp), splice_all (by simpa using hx), roof_set ho hc hk]; rfl
theorem mapO_one {f : D → Option D} {d e : D} (h : mapO f [d] = some [e]) : f d = some e := by
  simp only [mapO] at h
  split at h
  · rename_i y hy; rw [hy]; simpa using h
  · cases h
theorem CapOk.fst {d : D} (h : CapOk [d]) (f : Fn) (rn : Rn) : renD rn depth (.fn f [d] []) = some (.fn f [d] []) := by
  have := mapO_one (h.ren rn)
  show renD rn (11 + 1) (.fn f [d] []) = _
  rw [renD]
  simp only [mapO, this]
theorem CapOk.fst1 {d : D} (h : CapOk [d]) {m : Id → Option D} {x y : D} (hx : V.deep false [] m depth x = some y) : mapO (V.deep false [] m depth) ([d] ++ ([x] ++ [])) = some [d, y] := by
  have := mapO_one (h.deep m)
  simp only [List.append_nil, List.cons_append, List.nil_append, mapO, hx, this]
end Go.V
namespace Go.Proofs.Ytejncabmppobfaa
open Go.V
theorem dripSum_sat (r : Roof) (hr : r.In) (hb : Rb r) (w : Nat → Int) (hw : W1 w) : Sat Try.prog 82 [roofD r, raiD w] (.v (.int .i64 (dsI r w))) := by
  have hin := dR_inM r hw
  refine sat_of_wp hMix tOk Try.func82 rfl rfl Try.ntmps82 rfl rfl Try.results82 (by kernel_rfl) ?_
  conv => whnf
  repeat (first | (refine go_E3 ?_; conv => whnf) | (refine lk_E3 ?_; conv => whnf))
  first | refine ⟨_, _, rfl, sc_E3 (run_sat r hr hb w hw), ?_⟩ | refine .inl ⟨_, _, rfl, sc_E3 (run_sat r hr hb w hw), ?_⟩
  conv => whnf
  repeat (first | (refine go_E3 ?_; conv => whnf) | (refine lk_E3 ?_; conv => whnf))
  refine .inr ⟨dripC (dR r w), ⟨rfl, by show 0 + 136 ≤ _; simp, flow_plain⟩, ?_⟩
  conv => whnf
  repeat (first | (refine go_E3 ?_; conv => whnf) | (refine lk_E3 ?_; conv => whnf))
  first | refine ⟨_, _, rfl, sc_E3 (courses_sat r hr (by omega) (dR r w) hin), ?_⟩ | refine .inl ⟨_, _, rfl, sc_E3 (courses_sat r hr (by omega) (dR r w) hin), ?_⟩
  conv => whnf
  repeat (first | (refine go_E3 ?_; conv => whnf) | (refine lk_E3 ?_; conv => whnf))
  first | refine ⟨_, _, rfl, sc_E3 (sumI_sat (fun i => smT (dR r w i) 17) r.h.toNat (by omega) (fun i hi => row_in hin i (Nat.le_refl _)) false), ?_⟩ | refine .inl ⟨_, _, rfl, sc_E3 (sumI_sat (fun i => smT (dR r w i) 17) r.h.toNat (by omega) (fun i hi => row_in hin i (Nat.le_refl _)) false), ?_⟩
  conv => whnf
  repeat (first | (refine go_E3 ?_; conv => whnf) | (refine lk_E3 ?_; conv => whnf))
  first | refine ⟨rfl, _, rfl, ?_⟩ | refine ⟨_, rfl, ?_⟩
  skip
  rw [dsI_h (by omega)]; rfl
theorem l02Sum_sat (r : Roof) (hr : r.In) (hb : Rb r) (w : Nat → Int) (hw : W1 w) : Sat Try.prog 76 [.ref false (roofD r) 0, .ref false (raiD w) 0] (.v (.int .i64 (dsI r w))) := by
  have hin := dR_inM r hw
  refine sat_of_wp hMix tOk Try.func76 rfl rfl Try.ntmps76 rfl rfl Try.results76 (by kernel_rfl) ?_
  conv => whnf
  repeat (first | (refine go_E3 ?_; conv => whnf) | (refine lk_E3 ?_; conv => whnf))
  first | refine ⟨_, _, rfl, sc_E3 (l02Run_sat r hr hb w hw), ?_⟩ | refine .inl ⟨_, _, rfl, sc_E3 (l02Run_sat r hr hb w hw), ?_⟩
  conv => whnf
  repeat (first | (refine go_E3 ?_; conv => whnf) | (refine lk_E3 ?_; conv => whnf))
  refine loop_rule (α := Nat) (fun i => [(5, .ptr (5, 0, 0) 0), (8, .v (.int .i64 (totS (dR r w) i))), (9, .v (.int .i64 i))]) (fun i => [((5, 0, 0), dripD (dR r w))]) (fun i => i ≤ 8) (fun i => 8 - i) (0) ?_ (sim_of (rn := [((5, 0, 0), (5, 0, 0))]) rfl ?_ ?_) ?_
  · exact okt_E3
  · exact hold_E3
  · ((repeat' (first | exact trivial | apply And.intro)) <;> ((first | refine ⟨_, _, rfl, rfl, ?_⟩ ); first | rfl | (exact csplice (by simp))))
  intro i hi
  conv => whnf
  repeat (first | (refine go_E3 ?_; conv => whnf) | (refine lk_E3 ?_; conv => whnf))
  cases h1 : decide ((i : Int) < 8)
  · have h8 : i = 8 := by simp at h1; omega
    subst h8
    conv => whnf
    repeat (first | (refine go_E3 ?_; conv => whnf) | (refine lk_E3 ?_; conv => whnf))
    first | refine ⟨rfl, _, rfl, ?_⟩ | refine ⟨_, rfl, ?_⟩
    rfl
  have h8 : i < 8 := by simp at h1; omega
  conv => whnf
  repeat (first | (refine go_E3 ?_; conv => whnf) | (refine lk_E3 ?_; conv => whnf))
  refine loop_rule (α := Nat) (fun c => [(5, .ptr (5, 0, 0) 0), (8, .v (.int .i64 (totS (dR r w) i + smT (dR r w i) c))), (9, .v (.int .i64 i)), (10, .v (.int .i64 c))]) (fun c => [((5, 0, 0), dripD (dR r w))]) (fun c => c ≤ 17) (fun c => 17 - c) (0) ?_ (sim_of (rn := [((5, 0, 0), (5, 0, 0))]) rfl ?_ ?_) ?_
  · exact okt_E3
  · ((repeat' (first | exact trivial | apply And.intro)) <;> (first | rfl | (exact vintS (by simp [smT])) | exact leaf_E3))
  · ((repeat' (first | exact trivial | apply And.intro)) <;> ((first | refine ⟨_, _, rfl, rfl, ?_⟩ ); rfl))
  intro c hc
  have t1 := tot_in hin hi
  have t2 := row_in hin i hc
  conv => whnf
  repeat (first | (refine go_E3 ?_; conv => whnf) | (refine lk_E3 ?_; conv => whnf))
  cases h2 : decide ((c : Int) < 17)
  · have h17 : c = 17 := by simp at h2; omega
    subst h17
    conv => whnf
    repeat (first | (refine go_E3 ?_; conv => whnf) | (refine lk_E3 ?_; conv => whnf))
    refine ⟨i + 1, ?_, ?_, sim_of (rn := [((5, 0, 0), (5, 0, 0))]) rfl ?_ ?_⟩
    · (dsimp only; omega)
    · exact okt_E3
    · exact hold_E3
    · ((repeat' (first | exact trivial | apply And.intro)) <;> ((first | refine ⟨_, _, rfl, rfl, ?_⟩ ); rfl))
  have h17 : c < 17 := by simp at h2; omega
  have t3 := hin i c h17
  conv => whnf
  repeat (first | (refine go_E3 ?_; conv => whnf) | (refine lk_E3 ?_; conv => whnf))
  have e : totS (dR r w) i + smT (dR r w i) (c + 1) = IntKind.i64.wrap (totS (dR r w) i + smT (dR r w i) c + IntKind.i64.wrap (dR r w i c)) := by
    rw [w64 (n := dR r w i c) (by omega) (by omega), w64 (by omega) (by omega), smT]; omega
  refine ⟨c + 1, ?_, ?_, sim_of (rn := [((5, 0, 0), (5, 0, 0))]) rfl ?_ ?_⟩
  · (dsimp only; omega)
  · exact okt_E3
  · ((repeat' (first | exact trivial | apply And.intro)) <;> (first | rfl | (exact vintS e) | exact leaf_E3))
  · ((repeat' (first | exact trivial | apply And.intro)) <;> ((first | refine ⟨_, _, rfl, rfl, ?_⟩ ); rfl))
theorem kind_sat (r : Roof) (c k : Nat) (hc : c < 8) (hk : k < 8) : Sat Try.prog 162 [roofD r, placeD c k] (.v (.int .u8 (r.t c k))) := by
  refine sat_of_wp hMix tOk Try.func162 rfl rfl Try.ntmps162 rfl rfl Try.results162 (by kernel_rfl) ?_
  conv => whnf
  repeat (first | (refine go_E3 ?_; conv => whnf) | (refine lk_E3 ?_; conv => whnf))
  first | refine ⟨rfl, _, rfl, ?_⟩ | refine ⟨_, rfl, ?_⟩
  rfl
theorem isWrong_sat (r : Roof) (c k : Nat) (hc : c < 8) (hk : k < 8) : Sat Try.prog 143 [roofD r, placeD c k] (.v (.bool (wrB r c k))) := by
  refine sat_of_wp hMix tOk Try.func143 rfl rfl Try.ntmps143 rfl rfl Try.results143 (by kernel_rfl) ?_
  conv => whnf
  repeat (first | (refine go_E3 ?_; conv => whnf) | (refine lk_E3 ?_; conv => whnf))
  first | refine ⟨_, _, rfl, sc_E3 (kind_sat r c k hc hk), ?_⟩ | refine .inl ⟨_, _, rfl, sc_E3 (kind_sat r c k hc hk), ?_⟩
  conv => whnf
  repeat (first | (refine go_E3 ?_; conv => whnf) | (refine lk_E3 ?_; conv => whnf))
  first | refine ⟨rfl, _, rfl, ?_⟩ | refine ⟨_, rfl, ?_⟩
  rfl
theorem l01At_sat (r : Roof) (hr : r.In) (c k : Nat) (hc : c < 8) (hk : k < 8) : Sat Try.prog 117 [.ref false (roofD r) 0, placeD c k] (.v (.int .i64 (r.t c k))) := by
  have ht := hr.t c k
  refine sat_of_wp hMix tOk Try.func117 rfl rfl Try.ntmps117 rfl rfl Try.results117 (by kernel_rfl) ?_
  conv => whnf
  repeat (first | (refine go_E3 ?_; conv => whnf) | (refine lk_E3 ?_; conv => whnf))
  rw [show IntKind.i64.wrap (r.t c k) = r.t c k from w64 (by omega) (by omega)]
  first | refine ⟨rfl, _, rfl, ?_⟩ | refine ⟨_, rfl, ?_⟩
  rfl
theorem placesF_sat {g : Nat} {d : D} {p : Nat → Nat → Bool} (r : Roof) (hr : r.In) (hb : Rb r) (hd : CapOk [d]) (hg : ∀ c k : Nat, c < 8 → k < 8 → Sat Try.prog g [d, placeD c k] (.v (.bool (p c k)))) :
    Sat Try.prog 115 [roofD r, .fn (.func g) [d] []] (placesD true (allP r p)) := by
  refine sat_of_wp hMix tOk Try.func115 rfl rfl Try.ntmps115 rfl rfl Try.results115 (by kernel_rfl) ?_
  conv => whnf
  repeat (first | (refine go_E3 ?_; conv => whnf) | (refine lk_E3 ?_; conv => whnf))
  refine loop_rule (α := Nat) (fun c => [(1, .fn (.func g) [d] []), (2, .ptr (2, 0, 0) 0), (5, .slc true 2 (28, 0, 0) 0 (pick p r.w.toNat c 0).length), (9, .v (.int .i8 r.h)), (10, .v (.int .i8 c))]) (fun c => [((2, 0, 0), roofD r), ((28, 0, 0), .v (.agg ⟨placesC (pick p r.w.toNat c 0)⟩))]) (fun c => c ≤ r.h.toNat) (fun c => 8 - c) (0) ?_ (sim_of (rn := [((2, 0, 0), (2, 0, 0)), ((28, 0, 0), nilId)]) rfl ?_ ?_) ?_
  · exact okt_E3
  · ((repeat' (first | exact trivial | apply And.intro)) <;> (first | rfl | (exact hd.fst _ _) | exact leaf_E3))
  · ((repeat' (first | exact trivial | apply And.intro)) <;> ((first | refine ⟨_, _, rfl, rfl, ?_⟩ ); rfl))
  intro c hc'
  conv => whnf
  repeat (first | (refine go_E3 ?_; conv => whnf) | (refine lk_E3 ?_; conv => whnf))
  cases h4 : decide ((c : Int) < r.h)
  · have h8 : c = r.h.toNat := by simp at h4; omega
    subst h8
    exact ⟨rfl, _, rfl, rfl⟩
  have hch : (c : Int) < r.h := by simpa using h4
  conv => whnf
  repeat (first | (refine go_E3 ?_; conv => whnf) | (refine lk_E3 ?_; conv => whnf))
  refine loop_rule (α := Nat) (fun k => [(1, .fn (.func g) [d] []), (2, .ptr (2, 0, 0) 0), (5, .slc true 2 (28, 0, 0) 0 (pick p r.w.toNat c k).length), (6, .v (.int .i8 c)), (9, .v (.int .i8 r.h)), (10, .v (.int .i8 c)), (14, .v (.int .i8 r.w)), (15, .v (.int .i8 k))]) (fun k => [((2, 0, 0), roofD r), ((28, 0, 0), .v (.agg ⟨placesC (pick p r.w.toNat c k)⟩))]) (fun k => k ≤ r.w.toNat) (fun k => 8 - k) (0) ?_ (sim_of (rn := [((2, 0, 0), (2, 0, 0)), ((28, 0, 0), (28, 0, 0))]) rfl ?_ ?_) ?_
  · exact okt_E3
  · ((repeat' (first | exact trivial | apply And.intro)) <;> (first | rfl | (exact hd.fst _ _) | exact leaf_E3))
  · ((repeat' (first | exact trivial | apply And.intro)) <;> ((first | refine ⟨_, _, rfl, rfl, ?_⟩ ); rfl))
  intro k hk
  conv => whnf
  repeat (first | (refine go_E3 ?_; conv => whnf) | (refine lk_E3 ?_; conv => whnf))
  cases h5 : decide ((k : Int) < r.w)
  · have hkw : k = r.w.toNat := by simp at h5; omega
    subst hkw
    conv => whnf
    repeat (first | (refine go_E3 ?_; conv => whnf) | (refine lk_E3 ?_; conv => whnf))
    rw [← pick_row]
    refine ⟨c + 1, ?_, ?_, sim_of (rn := [((2, 0, 0), (2, 0, 0)), ((28, 0, 0), (28, 0, 0))]) rfl ?_ ?_⟩
    · (dsimp only; omega)
    · exact okt_E3
    · ((repeat' (first | exact trivial | apply And.intro)) <;> (first | rfl | (exact hd.fst _ _) | exact leaf_E3))
    · ((repeat' (first | exact trivial | apply And.intro)) <;> ((first | refine ⟨_, _, rfl, rfl, ?_⟩ ); rfl))
  have hkw : (k : Int) < r.w := by simpa using h5
  conv => whnf
  repeat (first | (refine go_E3 ?_; conv => whnf) | (refine lk_E3 ?_; conv => whnf))
  refine .inl ⟨_, _, hd.fst1 rfl, hg c k (by omega) (by omega), ?_⟩
  have hl := pick_len p (w := r.w.toNat) (c := c) (k := k) (by omega) (by omega) (by omega)
  conv => whnf
  cases hp : p c k
  · conv => whnf
    repeat (first | (refine go_E3 ?_; conv => whnf) | (refine lk_E3 ?_; conv => whnf))
    rw [← pick_no hp]
    refine ⟨k + 1, ?_, ?_, sim_of (rn := [((2, 0, 0), (2, 0, 0)), ((28, 0, 0), (28, 0, 0))]) rfl ?_ ?_⟩
    · (dsimp only; omega)
    · exact okt_E3
    · ((repeat' (first | exact trivial | apply And.intro)) <;> (first | rfl | (exact hd.fst _ _) | exact leaf_E3))
    · ((repeat' (first | exact trivial | apply And.intro)) <;> ((first | refine ⟨_, _, rfl, rfl, ?_⟩ ); rfl))
  · conv => whnf
    refine ⟨⟨by show (_ + 1) * 2 ≤ 140737488355328; omega, by omega⟩, ?_⟩
    conv => whnf
    have e1 : (pick p r.w.toNat c k).length + 1 = (pick p r.w.toNat c (k + 1)).length := by rw [pick_yes hp, List.length_append]; rfl
    have e2 : placesC (pick p r.w.toNat c k) ++ [.int .i8 c, .int .i8 k] = placesC (pick p r.w.toNat c (k + 1)) := by rw [pick_yes hp, placesC_append]; rfl
    refine ⟨k + 1, by dsimp only; omega, by dsimp only; omega, sim_of (rn := [((2, 0, 0), (2, 0, 0)), ((28, 0, 0), (28, 1, 0))]) rfl ⟨hd.fst _ _, rfl, ?_, rfl, rfl, rfl, rfl, succ8 (by omega), trivial⟩ ⟨⟨_, _, rfl, rfl, rfl⟩, ⟨_, _, rfl, rfl, ?_⟩, trivial⟩⟩
    · rw [← e1]; rfl
    · rw [← e2]; rfl
theorem wrong_sat (r : Roof) (hr : r.In) (hb : Rb r) : Sat Try.prog 119 [roofD r] (placesD true (wrP r)) := by
  refine sat_of_wp hMix tOk Try.func119 rfl rfl Try.ntmps119 rfl rfl Try.results119 (by kernel_rfl) ?_
  conv => whnf
  repeat (first | (refine go_E3 ?_; conv => whnf) | (refine lk_E3 ?_; conv => whnf))
  first | refine ⟨_, _, rfl, sc_E3 (placesF_sat (g := 143) (d := roofD r) (p := wrB r) r hr hb ⟨fun _ => rfl, fun _ => rfl⟩ (isWrong_sat r)), ?_⟩ | refine .inl ⟨_, _, rfl, sc_E3 (placesF_sat (g := 143) (d := roofD r) (p := wrB r) r hr hb ⟨fun _ => rfl, fun _ => rfl⟩ (isWrong_sat r)), ?_⟩
  conv => whnf
  repeat (first | (refine go_E3 ?_; conv => whnf) | (refine lk_E3 ?_; conv => whnf))
  first | refine ⟨rfl, _, rfl, ?_⟩ | refine ⟨_, rfl, ?_⟩
  rfl
end Go.Proofs.Ytejncabmppobfaa
/- Contracts: the tile that is best made whole; tiles that are made whole until no more than so much drips; the law. -/
set_option linter.unusedVariables false
set_option linter.unusedSimpArgs false
namespace Go.V
end Go.V
namespace Go.Proofs.Ytejncabmppobfaa
open Go.V
end Go.Proofs.Ytejncabmppobfaa
/- Contracts: tiles that are made whole until no more than so much drips, both sides, and the law. -/
set_option linter.unusedVariables false
set_option linter.unusedSimpArgs false
namespace Go.V
/- Words for the walks of this text: their default arguments are tried where they are used. -/
theorem go_E5 {P Q : Prop} (k : Q) (h : P := by first | exact Nat.le_of_ble_eq_true rfl | exact rfl | decide | omega | (simp [splice]; done) | (constructor <;> omega) | (simp [splice]; omega)) : P ∧ Q := ⟨h, k⟩
theorem lk_E5 {α : Type} {o : Option α} {K : α → Prop} {x : α} (k : K x) (h : o = some x := by first | exact raiA (by omega) | exact raiA' (by omega) | exact roofN (by omega) (by omega) | exact gridN (by omega) (by omega) | exact placeA (by omega) | exact placeB (by omega) | exact placeA' (by omega) | exact placeB' (by omega)) : optK o K := optK_of h k
theorem hold_E5 {P : Prop} (h : P := by (repeat' (first | exact trivial | apply And.intro)) <;> (first | rfl | exact succ8 (by omega) | exact succ64 (by omega) | exact CapOk.fn (by assumption) _ _ | exact vintS (by omega) | exact vintS (by rw [w64 (by omega) (by omega)]; omega) | exact vintS (by rw [w8 (by omega) (by omega)]; omega) | exact vslcS (by omega) | exact vslcS (by simp))) : P := h
theorem okt_E5 {P : Prop} (h : P := by first | omega | (dsimp only; omega) | ((repeat' apply And.intro) <;> omega) | (dsimp only; (repeat' apply And.intro) <;> omega) | trivial) : P := h
end Go.V
namespace Go.V
end Go.V
namespace Go.Proofs.Ytejncabmppobfaa
open Go.V
theorem toRain_sat (w : Nat → Int) : Sat Try.prog 12 [raiD w] (raiD w) := by
  refine sat_of_wp hMix tOk Try.func12 rfl rfl Try.ntmps12 rfl rfl Try.results12 (by kernel_rfl) ?_
  conv => whnf
  repeat (first | (refine go_E5 ?_; conv => whnf) | (refine lk_E5 ?_; conv => whnf))
  refine loop_rule (α := Nat) (fun k => [(1, .ptr (1, 0, 0) 0), (2, .ptr (2, 0, 0) 0), (3, .ptr (3, 0, 0) 0), (4, .v (.int .i64 k))]) (fun k => [((1, 0, 0), raiD w), ((2, 0, 0), .v (.agg ⟨List.replicate 17 (.int .i16 0)⟩)), ((3, 0, 0), .v (.agg ⟨raiC (mix w (fun _ => 0) k)⟩))]) (fun k => k ≤ 17) (fun k => 17 - k) (0) ?_ (sim_of (rn := [((1, 0, 0), (1, 0, 0)), ((2, 0, 0), (2, 0, 0)), ((3, 0, 0), (3, 0, 0))]) rfl ?_ ?_) ?_
  · exact okt_E5
  · exact hold_E5
  · ((repeat' (first | exact trivial | apply And.intro)) <;> ((first | refine ⟨_, _, rfl, rfl, ?_⟩ ); first | rfl | (exact cset (by rw [mix_zero, raiC_zero]))))
  intro k hk
  conv => whnf
  repeat (first | (refine go_E5 ?_; conv => whnf) | (refine lk_E5 ?_; conv => whnf))
  cases h1 : decide ((k : Int) < 17)
  · have hk17 : k = 17 := by simp at h1; omega
    subst hk17
    rw [show raiC (mix w (fun _ => 0) 17) = raiC w from raiC_congr fun i hi => by simp [mix, hi]]
    conv => whnf
    repeat (first | (refine go_E5 ?_; conv => whnf) | (refine lk_E5 ?_; conv => whnf))
    first | refine ⟨rfl, _, rfl, ?_⟩ | refine ⟨_, rfl, ?_⟩
    skip
    exact congrArg (fun l => D.v (.agg ⟨l⟩)) (copied (n := 17) (by simp) (by simp)).symm
  have hk17 : k < 17 := by simp at h1; omega
  conv => whnf
  repeat (first | (refine go_E5 ?_; conv => whnf) | (refine lk_E5 ?_; conv => whnf))
  have setA : (raiC (mix w (fun _ => 0) k)).set (0 + (k : Int).toNat * 1) (.int .i16 (w k)) = raiC (mix w (fun _ => 0) (k + 1)) := by
    rw [show 0 + (k : Int).toNat * 1 = k by omega, rai_set rfl, mix_put]
  refine ⟨k + 1, ?_, ?_, sim_of (rn := [((1, 0, 0), (1, 0, 0)), ((2, 0, 0), (2, 0, 0)), ((3, 0, 0), (3, 0, 0))]) rfl ?_ ?_⟩
  · (dsimp only; omega)
  · exact okt_E5
  · exact hold_E5
  · ((repeat' (first | exact trivial | apply And.intro)) <;> ((first | refine ⟨_, _, rfl, rfl, ?_⟩ ); first | rfl | (exact cset setA)))
end Go.Proofs.Ytejncabmppobfaa
/- Plain words: lists of places by sets, how they are ordered, what drips behind repairs, the best of them. -/
set_option linter.unusedVariables false
set_option linter.unusedSimpArgs false
namespace Go.V
/-- A roof of which places are mended. -/
def mnR (r : Roof) (l : List Pl) : Nat → Roof
  | 0 => r
  | k + 1 => putR (mnR r l k) (nthP l k).1 (nthP l k).2 0
@[simp] theorem mnR_w (r : Roof) (l : List Pl) : ∀ n, (mnR r l n).w = r.w
  | 0 => rfl
  | n + 1 => mnR_w r l n
@[simp] theorem mnR_h (r : Roof) (l : List Pl) : ∀ n, (mnR r l n).h = r.h
  | 0 => rfl
  | n + 1 => mnR_h r l n
@[simp] theorem mnR_s (r : Roof) (l : List Pl) : ∀ n, (mnR r l n).s = r.s
  | 0 => rfl
  | n + 1 => mnR_s r l n
theorem mnR_in {r : Roof} (hr : r.In) (l : List Pl) : ∀ n, (mnR r l n).In
  | 0 => hr
  | n + 1 => putR_in (mnR_in hr l n) (by omega)
/-- How much drips behind repairs. -/
def afI (r : Roof) (w : Nat → Int) (l : List Pl) : Int := dsI (mnR r l l.length) w
theorem mnR_t (r : Roof) (l : List Pl) (c k : Nat) : ∀ n, n ≤ l.length → (mnR r l n).t c k = if (c, k) ∈ l.take n then 0 else r.t c k
  | 0, _ => by simp [mnR]
  | n + 1, hn => by
    have ih := mnR_t r l c k n (by omega)
    have e : l.take (n + 1) = l.take n ++ [nthP l n] := by
      rw [List.take_add_one, nthP_some (by omega)]; rfl
    show (putR (mnR r l n) (nthP l n).1 (nthP l n).2 0).t c k = _
    rw [e]
    simp only [putR, putG, ih, List.mem_append, List.mem_singleton]
    by_cases h1 : c = (nthP l n).1 ∧ k = (nthP l n).2
    · rw [if_pos h1, if_pos (.inr (Prod.ext h1.1 h1.2))]
    · have h2 : ¬ (c, k) = nthP l n := fun e => h1 (by rw [← e]; exact ⟨rfl, rfl⟩)
      rw [if_neg h1]
      by_cases h3 : (c, k) ∈ l.take n
      · rw [if_pos h3, if_pos (.inl h3)]
      · rw [if_neg h3, if_neg (by rintro (h | h); · exact h3 h
                                  · exact h2 h)]
/-! ### The order of lists -/
end Go.V
/- Plain words: lists of things of a fixed number of cells; lists of roofs. -/
set_option linter.unusedVariables false
set_option linter.unusedSimpArgs false
namespace Go.V
section
variable {α : Type} {f : α → List Value} {n : Nat}
theorem fm_len (hf : ∀ x, (f x).length = n) : ∀ l : List α, (l.flatMap f).length = l.length * n
  | [] => by simp
  | x :: l => by rw [List.flatMap_cons, List.length_append, hf, fm_len hf l, List.length_cons, Nat.succ_mul]; omega
end
/-- Lists of roofs. -/
def rx (rs : List Roof) (i : Nat) : Roof := rs.getD i zeroR
@[irreducible] def roofsC (rs : List Roof) : List Value := rs.flatMap roofC
theorem roofsC_def (rs : List Roof) : roofsC rs = rs.flatMap roofC := by unfold roofsC; rfl
@[simp] theorem roofsC_len (rs : List Roof) : (roofsC rs).length = rs.length * 67 := by rw [roofsC_def, fm_len roofC_len]
def roofsD (m : Bool) (rs : List Roof) : D := .row m 67 (.v (.agg ⟨roofsC rs⟩)) rs.length
/-- What a pointer into a list of cells leads to, told as cells of its own. -/
theorem Rep.refSub {w : World} {base : Nat} {loc : Loc} {m : Bool} {xs ys : List Value} {off n : Nat} {y : Value} (h : Rep w base loc (.ref m (.v (.agg ⟨xs⟩)) off) y) (hn : (xs.drop off).take n = ys) (hl : ys.length = n) (hpos : 0 < n) :
    Rep w base loc (.ref m (.v (.agg ⟨ys⟩)) 0) y := by
  simp only [Rep] at h ⊢
  obtain ⟨b, o, zs, rfl, hat, hav, hm, hz, hfl⟩ := h
  cases hz
  refine ⟨b, o + off, ys, rfl, ?_, hav, hm, rfl, ?_⟩
  · obtain ⟨k, e, fr, h1, h2, h3⟩ := hat
    have hle : off + n ≤ xs.length := by
      have := congrArg List.length hn
      simp at this
      omega
    refine ⟨k, e, fr, h1, by omega, ?_⟩
    have : ((k.toList.drop o).take xs.length).drop off = xs.drop off := by rw [h3]
    rw [hl, ← hn, ← this, List.drop_take, List.take_take, List.drop_drop, show min n (xs.length - off) = n by omega]
  · simp only [Flat, List.all_eq_true] at hfl ⊢
    intro x hx
    rw [← hn] at hx
    exact hfl x (List.mem_of_mem_drop (List.mem_of_mem_take hx))
theorem Sat.sub {P : Program} {g : FuncId} {m : Bool} {xs ys : List Value} {off n : Nat} {rest : List D} {res : D} (h : Sat P g (.ref m (.v (.agg ⟨ys⟩)) 0 :: rest) res) (hn : (xs.drop off).take n = ys) (hl : ys.length = n) (hpos : 0 < n) :
    Sat P g (.ref m (.v (.agg ⟨xs⟩)) off :: rest) res := by
  refine ⟨h.1, fun w vs hgl hr => h.2 w vs hgl ?_⟩
  simp only [RepL] at hr ⊢
  obtain ⟨y, yss, rfl, h1, h2⟩ := hr
  exact ⟨y, yss, rfl, h1.refSub hn hl hpos, h2⟩
end Go.V
/- Contracts: what the laws do with lists of roofs; roofs that are all as told. -/
set_option linter.unusedVariables false
set_option linter.unusedSimpArgs false
namespace Go.V
def idxX {α : Type} (p : α → Bool) (d : α) (l : List α) : Int := match (List.range l.length).find? (fun i => p (l.getD i d)) with | some i => (i : Int) | none => -1
end Go.V
namespace Go.Proofs.Ytejncabmppobfaa
open Go.V
end Go.Proofs.Ytejncabmppobfaa
/- Contracts: roofs that are all as told; whether roofs might be. -/
set_option linter.unusedVariables false
set_option linter.unusedSimpArgs false
namespace Go.V
end Go.V
namespace Go.Proofs.Ytejncabmppobfaa
open Go.V
end Go.Proofs.Ytejncabmppobfaa
/- Contracts: numbers for roofs that drip alike, both sides. -/
set_option linter.unusedVariables false
set_option linter.unusedSimpArgs false
namespace Go.V
/-- Whether two tables are one. -/
def eqD (f g : Nat → Nat → Int) : Bool := (List.range 136).all fun k => f (k / 17) (k % 17) == g (k / 17) (k % 17)
abbrev Tb := Nat → Nat → Int
def zT : Tb := fun _ _ => 0
@[irreducible] def drsC (ds : List Tb) : List Value := ds.flatMap dripC
theorem drsC_def (ds : List Tb) : drsC ds = ds.flatMap dripC := by unfold drsC; rfl
@[simp] theorem drsC_len (ds : List Tb) : (drsC ds).length = ds.length * 136 := by rw [drsC_def, fm_len dripC_len]
/-- Where a table is met first. -/
def gIx (ds : List Tb) (f : Tb) : Int := idxX (eqD f) zT ds
def gNo (ds : List Tb) (f : Tb) : Nat := if gIx ds f < 0 then ds.length else (gIx ds f).toNat
/-- The tables that were met, and the numbers of the first i roofs. -/
def snL (F : Nat → Tb) : Nat → List Tb
  | 0 => []
  | i + 1 => if gIx (snL F i) (F i) < 0 then snL F i ++ [F i] else snL F i
def goL (F : Nat → Tb) (n : Nat) : List Int := qL (fun i => (gNo (snL F i) (F i) : Nat)) n
@[simp] theorem goL_len (F : Nat → Tb) (n : Nat) : (goL F n).length = n := qL_len _ n
theorem nth_part {a x y : D} : ∀ (q : Nat) (c : D), nth [a, x] q = some c → ∃ c0, nth [a, y] q = some c0 ∧ (c0 = c ∨ (c0 = y ∧ c = x))
  | 0, c, h => ⟨a, rfl, .inl (by simpa [nth] using h)⟩
  | 1, c, h => ⟨y, rfl, .inr ⟨rfl, by simpa [nth] using h.symm⟩⟩
  | n + 2, c, h => by simp [nth] at h
theorem cond_part {a x y : D} {c : D} {b : Bool} {q : Nat} (hc : (bif b then nth [a, x] q else none) = some c) : ∃ c0, (bif b then nth [a, y] q else none) = some c0 ∧ (c0 = c ∨ (c0 = y ∧ c = x)) := by
  cases b
  · cases hc
  · exact nth_part q c hc
theorem lentM_part {a x y : D} {id : Id} {c : D} (hc : lentM [a, x] id = some c) : ∃ c0, lentM [a, y] id = some c0 ∧ (c0 = c ∨ (c0 = y ∧ c = x)) := by
  unfold lentM at hc ⊢
  exact cond_part hc
/-- A nil slice in a variable, told as a part. -/
theorem Lent.part {w : World} {bs : Nat} {l0 : Loc} {a : D} (h : Lent w bs l0 [a, .v (.agg ⟨[.slice none 0 0]⟩)]) : Lent w bs l0 [a, .agg [.v (.slice none 0 0)]] := by
  have key : ∀ id c, lentM [a, .agg [.v (.slice none 0 0)]] id = some c → ∃ c0, lentM [a, .v (.agg ⟨[.slice none 0 0]⟩)] id = some c0 ∧ ((c0 = c) ∨ (c0 = .v (.agg ⟨[.slice none 0 0]⟩) ∧ c = .agg [.v (.slice none 0 0)])) :=
    fun id c hc => lentM_part hc
  refine ⟨h.dom, fun id c hc => ?_, h.range, fun id id' c c' b n n' h1 h2 h3 h4 => ?_⟩
  · obtain ⟨c0, g1, g2⟩ := key id c hc
    obtain ⟨l, xs, q1, q2, q3⟩ := h.mem id c0 g1
    rcases g2 with rfl | ⟨rfl, rfl⟩
    · exact ⟨l, xs, q1, q2, q3⟩
    · refine ⟨l, xs, q1, ?_, q3⟩
      simp only [Rep] at q2
      obtain ⟨q2, _⟩ := q2
      simp only [Value.agg.injEq] at q2
      cases q2
      simp only [Rep, RepL]
      exact ⟨_, rfl, ⟨_, _, rfl, ⟨rfl, rfl⟩, rfl⟩, rfl⟩
  · obtain ⟨c0, g1, _⟩ := key id c h1
    obtain ⟨c0', g1', _⟩ := key id' c' h2
    exact h.inj id id' _ _ b n n' g1 g1' h3 h4
theorem SatM.part {P : Program} {g : FuncId} {args : List D} {a res : D} {ms' : List (Option D)} {news : List D} (h : SatM P g args [a, .agg [.v (.slice none 0 0)]] res ms' news) : SatM P g args [a, .v (.agg ⟨[.slice none 0 0]⟩)] res ms' news :=
  ⟨h.1, fun w vs l0 bs hbs hbl hgl hl hr => h.2 w vs l0 bs hbs hbl hgl hl.part hr⟩
end Go.V
namespace Go.Proofs.Ytejncabmppobfaa
open Go.V
end Go.Proofs.Ytejncabmppobfaa
/- Contracts: numbers for roofs that drip alike, both sides, continued. -/
set_option linter.unusedVariables false
set_option linter.unusedSimpArgs false
namespace Go.V
end Go.V
namespace Go.Proofs.Ytejncabmppobfaa
open Go.V
end Go.Proofs.Ytejncabmppobfaa
/- Contracts: numbers for roofs that drip alike; the cell upon which rain has to fall; both sides, and the laws. -/
set_option linter.unusedVariables false
set_option linter.unusedSimpArgs false
namespace Go.V
end Go.V
namespace Go.Proofs.Ytejncabmppobfaa
open Go.V
end Go.Proofs.Ytejncabmppobfaa
/- Plain words: years: visits that are needed, each of them; what has to be replaced; tiles that are too old. -/
set_option linter.unusedVariables false
set_option linter.unusedSimpArgs false
namespace Go.V
end Go.V
/- Contracts: a source of choices out of bytes; valid roofs, ages and rain that are drawn from it. -/
set_option linter.unusedVariables false
set_option linter.unusedSimpArgs false
namespace Go.V
/-- Bytes. -/
@[irreducible] def u8C (xs : List Int) : List Value := xs.map (Value.int .u8)
theorem u8C_def (xs : List Int) : u8C xs = xs.map (Value.int .u8) := by unfold u8C; rfl
@[simp] theorem u8C_len (xs : List Int) : (u8C xs).length = xs.length := by simp [u8C_def]
def Bytes (xs : List Int) : Prop := ∀ i, i < xs.length → 0 ≤ ix xs i ∧ ix xs i ≤ 255
/-- The state of a source: how many were read, a number. -/
abbrev Sc := Nat × Int
def nxB (xs : List Int) (σ : Sc) : Int := if σ.1 < xs.length then ix xs σ.1 else 0
def nxS (xs : List Int) (σ : Sc) : Int := IntKind.u64.wrap (IntKind.u64.wrap (IntKind.u64.wrap (σ.2 * 6364136223846793005) + IntKind.u64.wrap (nxB xs σ)) + 1442695040888963407)
def nxt (xs : List Int) (σ : Sc) : Sc := (σ.1 + 1, nxS xs σ)
end Go.V
namespace Go.Proofs.Ytejncabmppobfaa
open Go.V
end Go.Proofs.Ytejncabmppobfaa
/- Contracts: valid roofs, ages and rain that are drawn from bytes. -/
set_option linter.unusedVariables false
set_option linter.unusedSimpArgs false
namespace Go.V
def s0 : Sc := (0, 0)
end Go.V
namespace Go.Proofs.Ytejncabmppobfaa
open Go.V
end Go.Proofs.Ytejncabmppobfaa
/- Contracts: what the laws ask of lists, of places and of roofs. -/
set_option linter.unusedVariables false
set_option linter.unusedSimpArgs false
namespace Go.V
end Go.V
namespace Go.Proofs.Ytejncabmppobfaa
open Go.V
end Go.Proofs.Ytejncabmppobfaa
/- Contracts: places and lists of places compared, lists by sets, roofs mended, what drips behind repairs; both sides. -/
set_option linter.unusedVariables false
set_option linter.unusedSimpArgs false
namespace Go.V
end Go.V
namespace Go.Proofs.Ytejncabmppobfaa
open Go.V
end Go.Proofs.Ytejncabmppobfaa
