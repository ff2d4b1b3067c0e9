import Derived.Test.YtdbhfobnmlogeaaDoorP1
set_option linter.unusedVariables false
set_option linter.unusedSimpArgs false
/- Numbers as texts, both sides; the text of rain. -/
set_option linter.unusedVariables false
set_option linter.unusedSimpArgs false
namespace Go.V
/- Words for the walks of this text: their default arguments are tried where they are used. -/
theorem go_F2 {P Q : Prop} (k : Q) (h : P := by first | exact strOk (by first | omega | (simp; omega)) | exact Nat.le_of_ble_eq_true rfl | exact rfl | decide | omega | (simp [splice]; done) | (constructor <;> omega) | (simp [splice]; omega)) : P ∧ Q := ⟨h, k⟩
theorem lk_F2 {α : Type} {o : Option α} {K : α → Prop} {x : α} (k : K x) (h : o = some x := by first | exact raiA (by omega) | exact raiA' (by omega) | exact watA (by omega) | exact watA' (by omega) | exact roofN (by omega) (by omega) | exact gridN (by omega) (by omega) | exact intA (by omega) | exact intA' (by omega)) : optK o K := optK_of h k
theorem sc_F2 {P : Program} {g : FuncId} {args args' : List D} {res : D} (h : Sat P g args res) (e : args' = args := by repeat (first | rfl | exact vfull (by first | (simp [splice]; done) | (simp [splice]; omega)) | exact rfull (by first | (simp [splice]; done) | (simp [splice]; omega)) | exact vrai16 (by show ((_ : Int).toNat - 0) * 1 = _; simp) (by show (_ : Int).toNat - 0 = _; simp) | exact vrow (by simp; done) (by omega) | exact vtiles (by simp) | exact vsplice (by simp) (by simp) | refine ceq ?_ ?_ | refine Eq.trans (vsplice (by first | (simp; done) | (simp; omega)) (by first | (simp; done) | (simp; omega))) ?_)) : Sat P g args' res := Sat.of_eq h e
theorem leaf_F2 {P : Prop} (h : P := by first | rfl | exact succ8 (by omega) | exact succ64 (by omega) | exact CapOk.fn (by assumption) _ _ | exact vintS (by omega) | exact vintS (by rw [w64 (by omega) (by omega)]; omega) | exact vintS (by rw [w8 (by omega) (by omega)]; omega) | exact vslcS (by omega) | exact vslcS (by simp)) : P := h
theorem hold_F2 {P : Prop} (h : P := by (repeat' (first | exact trivial | apply And.intro)) <;> (first | rfl | exact succ8 (by omega) | exact succ64 (by omega) | exact CapOk.fn (by assumption) _ _ | exact vintS (by omega) | exact vintS (by rw [w64 (by omega) (by omega)]; omega) | exact vintS (by rw [w8 (by omega) (by omega)]; omega) | exact vslcS (by omega) | exact vslcS (by simp))) : P := h
theorem okt_F2 {P : Prop} (h : P := by first | omega | (dsimp only; omega) | ((repeat' apply And.intro) <;> omega) | (dsimp only; (repeat' apply And.intro) <;> omega) | trivial) : P := h
end Go.V
namespace Go.V
def bsOf (l : List UInt8) : ByteArray := ⟨l.toArray⟩
theorem strOk {a b : ByteArray} (h : a.size + b.size ≤ 1000000000) : ((a.size + b.size : Nat) : Int) ≤ IntKind.i64.max := by
  have : IntKind.i64.max = 9223372036854775807 := rfl
  rw [this]; omega
theorem bs_append (a b : List UInt8) : bsOf a ++ bsOf b = bsOf (a ++ b) := by
  apply ByteArray.ext
  simp [bsOf]
@[simp] theorem bs_size (l : List UInt8) : (bsOf l).size = l.length := rfl
@[simp] theorem bs_list (l : List UInt8) : (bsOf l).data.toList = l := by simp [bsOf]
theorem dec_len {n k : Nat} (h : n < 10 ^ k) (hk : 1 ≤ k) : (Lib.decDigits n).length ≤ k := by
  rw [Lib.decDigits_length]
  induction k generalizing n with
  | zero => omega
  | succ k ih =>
    by_cases hn : n < 10
    · rw [Lib.nDigits_small hn]; omega
    · rw [Lib.nDigits_big hn]
      have hk1 : 1 ≤ k := by
        cases k with
        | zero => simp at h; omega
        | succ k => omega
      have := ih (n := n / 10) (by rw [Nat.pow_succ] at h; omega) hk1
      omega
def decB (n : Int) : ByteArray := bsOf (Lib.itoa n)
theorem decB_nn {n : Int} (h : 0 ≤ n) : decB n = bsOf (Lib.decDigits n.toNat) := by unfold decB Lib.itoa; rw [if_neg (by omega)]
theorem decB_size {n : Int} (h : 0 ≤ n ∧ n ≤ 1000) : 1 ≤ (decB n).size ∧ (decB n).size ≤ 4 := by
  rw [decB_nn h.1, bs_size]
  refine ⟨?_, dec_len (by omega) (by omega)⟩
  rw [Lib.decDigits_length]; exact Lib.nDigits_pos _
/-- A digit's byte. -/
theorem dig_byte (d : Nat) (h : d < 10) : IntKind.u8.wrap (IntKind.i64.wrap (48 + (d : Int))) = ((UInt8.ofNat (48 + d)).toNat : Int) := by
  have e : (UInt8.ofNat (48 + d)).toNat = 48 + d := by simp [UInt8.toNat_ofNat']; omega
  rw [w64 (by omega) (by omega), e, wu8 (by omega) (by omega)]
  omega
theorem one_byte (d : Nat) (h : d < 10) : [Value.int .u8 (IntKind.u8.wrap (IntKind.i64.wrap (48 + (d : Int))))] = byteVals (bsOf [UInt8.ofNat (48 + d)]) := by
  rw [dig_byte d h]; simp [byteVals, bsOf]
theorem join_snoc {xs : List (List UInt8)} {x sep : List UInt8} (h : xs ≠ []) : Lib.join (xs ++ [x]) sep = Lib.join xs sep ++ (sep ++ x) := by
  cases xs with
  | nil => exact absurd rfl h
  | cons y r =>
    rw [List.cons_append, Lib.join_cons, Lib.join_cons]
    unfold Lib.joinTail
    simp [List.append_assoc]
def qS (q : Nat → ByteArray) (n : Nat) : List ByteArray := (List.range n).map q
@[simp] theorem qS_len (q : Nat → ByteArray) (n : Nat) : (qS q n).length = n := by simp [qS]
theorem qS_next (q : Nat → ByteArray) (n : Nat) : qS q (n + 1) = qS q n ++ [q n] := by simp [qS, List.range_succ]
theorem vrai16 {w : Nat → Int} {n a b : Nat} (ha : a = n) (hb : b = n) : D.row false 1 (.v (.agg ⟨((raiC w).drop 0).take a⟩)) b = .row false 1 (.v (.agg ⟨((raiC w).drop 0).take n⟩)) n := by rw [ha, hb]
/-- The text of rain, as far as some cell. -/
def rnT (w : Nat → Int) : Nat → List UInt8
  | 0 => []
  | c + 1 => (rnT w c ++ (if 0 < c then [32] else [])) ++ Lib.itoa (w c)
theorem rnT_join (w : Nat → Int) : ∀ n, Lib.join ((qS (fun c => decB (w c)) n).map (·.data.toList)) [32] = rnT w n
  | 0 => rfl
  | n + 1 => by
    rw [qS_next, List.map_append, rnT]
    cases n with
    | zero => simp [qS, Lib.join_one, rnT, decB]
    | succ n =>
      have hne : (qS (fun c => decB (w c)) (n + 1)).map (·.data.toList) ≠ [] := by
        intro h
        have := congrArg List.length h
        simp at this
      rw [List.map_cons, List.map_nil, join_snoc hne, rnT_join w (n + 1), if_pos (by omega)]
      simp [decB]
theorem rnT_len {w : Nat → Int} {m : Nat} (h : ∀ c, c < m → 0 ≤ w c ∧ w c ≤ 1000) : ∀ n, n ≤ m → (rnT w n).length ≤ n * 5
  | 0, _ => by simp [rnT]
  | n + 1, hn => by
    have := rnT_len h n (by omega)
    have h2 := (decB_size (h n (by omega))).2
    unfold decB at h2
    rw [bs_size] at h2
    rw [rnT, List.length_append, List.length_append]
    have : (if 0 < n then [32] else ([] : List UInt8)).length ≤ 1 := by split <;> simp
    omega
def rainText (r : Roof) (w : Nat → Int) : ByteArray := if okN r w = true then bsOf (rnT w (2 * r.w + 1).toNat) else ⟨#[]⟩
end Go.V
namespace Go.Proofs.YtdbhfobnmlogeaaDoor
open Go.V
theorem decimal_sat : ∀ (n : Nat), (n : Int) ≤ 9223372036854775807 → Sat Tryd.prog 118 [.v (.int .i64 n)] (.v (.string (bsOf (Lib.decDigits n)))) := by
  intro n
  induction n using Nat.strongRecOn with
  | _ n ih =>
    intro hn
    have e1 : ((n : Int).tmod 10) = ((n % 10 : Nat) : Int) := (Int.ofNat_tmod n 10).symm
    have e0 : ((n : Int).tdiv 10) = ((n / 10 : Nat) : Int) := (Int.ofNat_tdiv n 10).symm
    have e2 : IntKind.i64.wrap ((n : Int).tdiv 10) = ((n / 10 : Nat) : Int) := by rw [e0, w64 (by omega) (by omega)]
    have e3 := one_byte (n % 10) (by omega)
    refine sat_of_wp hMix tOk Tryd.func118 rfl rfl Tryd.ntmps118 rfl rfl Tryd.results118 (by kernel_rfl) ?_
    conv => whnf
    repeat (first | (refine go_F2 ?_; conv => whnf) | (refine lk_F2 ?_; conv => whnf))
    cases h : decide ((n : Int) < 10)
    · have h' : ¬ n < 10 := by simp at h; omega
      have hs := ih (n / 10) (by omega) (by omega)
      have hl := dec_len (n := n / 10) (k := 19) (by omega) (by omega)
      conv => whnf
      repeat (first | (refine go_F2 ?_; conv => whnf) | (refine lk_F2 ?_; conv => whnf))
      rw [e2]
      first | refine ⟨_, _, rfl, sc_F2 (hs), ?_⟩ | refine .inl ⟨_, _, rfl, sc_F2 (hs), ?_⟩
      conv => whnf
      repeat (first | (refine go_F2 ?_; conv => whnf) | (refine lk_F2 ?_; conv => whnf))
      rw [e1]
      refine ⟨bsOf [UInt8.ofNat (48 + n % 10)], ⟨rfl, rfl, e3, rfl⟩, ?_⟩
      conv => whnf
      refine ⟨by show (((bsOf _).size + (bsOf _).size : Nat) : Int) ≤ 9223372036854775807; simp; omega, ?_⟩
      conv => whnf
      repeat (first | (refine go_F2 ?_; conv => whnf) | (refine lk_F2 ?_; conv => whnf))
      first | refine ⟨rfl, _, rfl, ?_⟩ | refine ⟨_, rfl, ?_⟩
      skip
      rw [bs_append, Lib.decDigits, dif_neg h']; rfl
    · have h' : n < 10 := by simp at h; omega
      have e4 : n % 10 = n := by omega
      conv => whnf
      repeat (first | (refine go_F2 ?_; conv => whnf) | (refine lk_F2 ?_; conv => whnf))
      rw [e1]
      refine ⟨bsOf [UInt8.ofNat (48 + n % 10)], ⟨rfl, rfl, e3, rfl⟩, ?_⟩
      conv => whnf
      repeat (first | (refine go_F2 ?_; conv => whnf) | (refine lk_F2 ?_; conv => whnf))
      first | refine ⟨rfl, _, rfl, ?_⟩ | refine ⟨_, rfl, ?_⟩
      skip
      rw [e4, Lib.decDigits_one h']; rfl
theorem decimalI_sat {n : Int} (h : 0 ≤ n ∧ n ≤ 9223372036854775807) : Sat Tryd.prog 118 [.v (.int .i64 n)] (.v (.string (decB n))) := by
  have := decimal_sat n.toNat (by omega)
  rw [decB_nn h.1]
  rw [show ((n.toNat : Nat) : Int) = n by omega] at this
  exact this
theorem dec16_sat (n : Int) (hn : -32768 ≤ n ∧ n ≤ 32767) : Sat Tryd.prog 74 [.v (.int .i16 n)] (.v (.string (decB n))) := by
  refine sat_of_wp hMix tOk Tryd.func74 rfl rfl Tryd.ntmps74 rfl rfl Tryd.results74 (by kernel_rfl) ?_
  conv => whnf
  repeat (first | (refine go_F2 ?_; conv => whnf) | (refine lk_F2 ?_; conv => whnf))
  rw [show IntKind.i64.wrap n = n from w64 (by omega) (by omega)]
  first | refine ⟨_, _, rfl, sc_F2 (formatInt_sat n (by omega) (by omega)), ?_⟩ | refine .inl ⟨_, _, rfl, sc_F2 (formatInt_sat n (by omega) (by omega)), ?_⟩
  conv => whnf
  repeat (first | (refine go_F2 ?_; conv => whnf) | (refine lk_F2 ?_; conv => whnf))
  first | refine ⟨rfl, _, rfl, ?_⟩ | refine ⟨_, rfl, ?_⟩
  rfl
theorem each16S_sat (w : Nat → Int) (hw : RaiIn w) (n : Nat) (hn : n ≤ 17) (m : Bool) :
    Sat Tryd.prog 72 [.row m 1 (.v (.agg ⟨((raiC w).drop 0).take n⟩)) n, .fn (.func 74) [] []] (strsD true (qS (fun c => decB (w c)) n)) := by
  have hc : ∀ i, i < n → nth (((raiC w).drop 0).take n) ((i : Int).toNat * 1) = some (.int .i16 (w i)) := fun i hi => by
    have := raiA' (w := w) (i := i) (by omega)
    rw [nth_eq] at this ⊢
    rw [List.drop_zero, List.getElem?_take, if_pos (by omega)]
    exact this
  refine satN_of_wp hMix tOk Tryd.func72 rfl rfl Tryd.ntmps72 rfl rfl Tryd.results72 (by kernel_rfl) ?_
  conv => whnf
  repeat (first | (refine go_F2 ?_; conv => whnf) | (refine lk_F2 ?_; conv => whnf))
  refine loop_rule (α := Nat) (fun i => [(1, .fn (.func 74) [] []), (5, .slc true 1 (19, 0, 0) 0 i), (8, .row m 1 (.v (.agg ⟨((raiC w).drop 0).take n⟩)) n), (9, .v (.int .i64 n)), (10, .v (.int .i64 i))]) (fun i => [((19, 0, 0), .v (.agg ⟨strsC (qS (fun c => decB (w c)) i)⟩))]) (fun i => i ≤ n) (fun i => n - i) (0) ?_ (sim_of (rn := [((19, 0, 0), nilId)]) rfl ?_ ?_) ?_
  · exact okt_F2
  · exact hold_F2
  · ((repeat' (first | exact trivial | apply And.intro)) <;> ((first | refine ⟨_, _, rfl, rfl, ?_⟩ ); first | rfl | ((exact cset (show [] = strsC [] from strsC_nil.symm)))))
  intro i hi
  have hml := qS_len (fun c => decB (w c)) i
  conv => whnf
  repeat (first | (refine go_F2 ?_; conv => whnf) | (refine lk_F2 ?_; conv => whnf))
  cases h : decide ((i : Int) < (n : Int))
  · have hin : i = n := by simp at h; omega
    subst hin
    unfold strsD
    rw [hml]
    conv => whnf
    repeat (first | (refine go_F2 ?_; conv => whnf) | (refine lk_F2 ?_; conv => whnf))
    first | refine ⟨rfl, _, rfl, [_], rfl, ?_, rfl⟩ | refine ⟨_, rfl, [_], rfl, ?_, rfl⟩
    ((repeat' (first | exact trivial | apply And.intro)) <;> first | exact .inl rfl | exact .inr ⟨rfl, rfl⟩)
  have hin : i < n := by simpa using h
  conv => whnf
  repeat (first | (refine go_F2 ?_; conv => whnf) | (refine lk_F2 ?_; conv => whnf))
  refine optK_of (hc i hin) ?_
  conv => whnf
  repeat (first | (refine go_F2 ?_; conv => whnf) | (refine lk_F2 ?_; conv => whnf))
  first | refine ⟨_, _, rfl, sc_F2 (dec16_sat (w i) (hw.t i)), ?_⟩ | refine .inl ⟨_, _, rfl, sc_F2 (dec16_sat (w i) (hw.t i)), ?_⟩
  conv => whnf
  repeat (first | (refine go_F2 ?_; conv => whnf) | (refine lk_F2 ?_; conv => whnf))
  have e2 : strsC (qS (fun c => decB (w c)) i) ++ [.string (decB (w i))] = strsC (qS (fun c => decB (w c)) (i + 1)) := by rw [qS_next, strsC_append, strsC_one]
  refine ⟨i + 1, ?_, ?_, sim_of (rn := [((19, 0, 0), (19, 1, 0))]) rfl ?_ ?_⟩
  · (dsimp only; omega)
  · exact okt_F2
  · exact hold_F2
  · ((repeat' (first | exact trivial | apply And.intro)) <;> ((first | refine ⟨_, _, rfl, rfl, ?_⟩ ); first | rfl | (exact cset e2)))
theorem implRainText_sat (r : Roof) (hr : r.In) (w : Nat → Int) (hw : RaiIn w) : Sat Tryd.prog 22 [roofD r, raiD w] (.v (.string (rainText r w))) := by
  refine sat_of_wp hMix tOk Tryd.func22 rfl rfl Tryd.ntmps22 rfl rfl Tryd.results22 (by kernel_rfl) ?_
  conv => whnf
  repeat (first | (refine go_F2 ?_; conv => whnf) | (refine lk_F2 ?_; conv => whnf))
  first | refine ⟨_, _, rfl, sc_F2 (validRain_sat r hr w hw), ?_⟩ | refine .inl ⟨_, _, rfl, sc_F2 (validRain_sat r hr w hw), ?_⟩
  conv => whnf
  repeat (first | (refine go_F2 ?_; conv => whnf) | (refine lk_F2 ?_; conv => whnf))
  cases hO : okN r w
  · conv => whnf
    repeat (first | (refine go_F2 ?_; conv => whnf) | (refine lk_F2 ?_; conv => whnf))
    first | refine ⟨rfl, _, rfl, ?_⟩ | refine ⟨_, rfl, ?_⟩
    skip
    unfold rainText; rw [hO]; rfl
  have hb := okR_bounds (okN_R hO)
  have hw1 : W1 w := okN_w hO
  have hcell : (2 * r.w + 1 : Int) = (((2 * r.w + 1).toNat : Nat) : Int) := by omega
  have hn : (2 * r.w + 1).toNat ≤ 17 := by omega
  have sC := cells_sat r hr hb
  rw [hcell] at sC
  have hj := rnT_join w (2 * r.w + 1).toNat
  have hl := rnT_len (m := 17) hw1 (2 * r.w + 1).toNat hn
  have hres : rainText r w = joinB (qS (fun c => decB (w c)) (2 * r.w + 1).toNat) ⟨#[32]⟩ := by
    unfold rainText joinB; rw [if_pos hO]
    show bsOf (rnT w _) = bsOf (Lib.join _ [32])
    rw [hj]
  rw [hres]
  generalize (2 * r.w + 1).toNat = n at *
  conv => whnf
  repeat (first | (refine go_F2 ?_; conv => whnf) | (refine lk_F2 ?_; conv => whnf))
  first | refine ⟨_, _, rfl, sc_F2 (sC), ?_⟩ | refine .inl ⟨_, _, rfl, sc_F2 (sC), ?_⟩
  conv => whnf
  repeat (first | (refine go_F2 ?_; conv => whnf) | (refine lk_F2 ?_; conv => whnf))
  refine ⟨⟨by decide, by show (0 : Int) ≤ (n : Int); omega, by show (n : Int) ≤ 17; omega, by show 0 + 17 * 1 ≤ (raiC w).length; simp⟩, ?_⟩
  conv => whnf
  repeat (first | (refine go_F2 ?_; conv => whnf) | (refine lk_F2 ?_; conv => whnf))
  first | refine ⟨_, _, rfl, sc_F2 (each16S_sat w hw n hn false), ?_⟩ | refine .inl ⟨_, _, rfl, sc_F2 (each16S_sat w hw n hn false), ?_⟩
  conv => whnf
  repeat (first | (refine go_F2 ?_; conv => whnf) | (refine lk_F2 ?_; conv => whnf))
  first | refine ⟨_, _, rfl, sc_F2 (join_sat (qS (fun c => decB (w c)) n) ⟨#[32]⟩ false (by simp; omega) (by show (Lib.join _ [32]).length ≤ _; rw [hj]; omega)), ?_⟩ | refine .inl ⟨_, _, rfl, sc_F2 (join_sat (qS (fun c => decB (w c)) n) ⟨#[32]⟩ false (by simp; omega) (by show (Lib.join _ [32]).length ≤ _; rw [hj]; omega)), ?_⟩
  conv => whnf
  repeat (first | (refine go_F2 ?_; conv => whnf) | (refine lk_F2 ?_; conv => whnf))
  first | refine ⟨rfl, _, rfl, ?_⟩ | refine ⟨_, rfl, ?_⟩
  rfl
theorem l02Text_sat (r : Roof) (hr : r.In) (hb : Rb r) (w : Nat → Int) (hw : W1 w) : Sat Tryd.prog 69 [.ref false (roofD r) 0, .ref false (raiD w) 0] (.v (.string (bsOf (rnT w (2 * r.w + 1).toNat)))) := by
  have hcell : (2 * r.w + 1 : Int) = (((2 * r.w + 1).toNat : Nat) : Int) := by omega
  have hn : (2 * r.w + 1).toNat ≤ 17 := by omega
  have sC := l01Cells_sat r hr hb
  rw [hcell] at sC
  have hl := rnT_len (m := 17) hw
  generalize (2 * r.w + 1).toNat = n at *
  refine sat_of_wp hMix tOk Tryd.func69 rfl rfl Tryd.ntmps69 rfl rfl Tryd.results69 (by kernel_rfl) ?_
  conv => whnf
  repeat (first | (refine go_F2 ?_; conv => whnf) | (refine lk_F2 ?_; conv => whnf))
  refine loop_rule (α := Nat) (fun c => [(0, .ref false (roofD r) 0), (1, .ref false (raiD w) 0), (5, .v (.string (bsOf (rnT w c)))), (6, .v (.int .i64 c))]) (fun c => []) (fun c => c ≤ n) (fun c => n - c) (0) ?_ (sim_of (rn := []) rfl ?_ ?_) ?_
  · exact okt_F2
  · exact hold_F2
  · ((repeat' (first | exact trivial | apply And.intro)) <;> ((first | refine ⟨_, _, rfl, rfl, ?_⟩ ); rfl))
  intro c hc
  conv => whnf
  repeat (first | (refine go_F2 ?_; conv => whnf) | (refine lk_F2 ?_; conv => whnf))
  first | refine ⟨_, _, rfl, sc_F2 (sC), ?_⟩ | refine .inl ⟨_, _, rfl, sc_F2 (sC), ?_⟩
  conv => whnf
  repeat (first | (refine go_F2 ?_; conv => whnf) | (refine lk_F2 ?_; conv => whnf))
  cases h4 : decide ((c : Int) < (n : Int))
  · have h8 : c = n := by simp at h4; omega
    subst h8
    conv => whnf
    repeat (first | (refine go_F2 ?_; conv => whnf) | (refine lk_F2 ?_; conv => whnf))
    first | refine ⟨rfl, _, rfl, ?_⟩ | refine ⟨_, rfl, ?_⟩
    rfl
  have h8 : c < n := by simpa using h4
  have hwc := hw c (by omega)
  have hlc := hl c (by omega)
  have hsz := (decB_size hwc).2
  have hD := decimalI_sat (n := w c) (by omega)
  have e1 : IntKind.i64.wrap (w c) = w c := w64 (by omega) (by omega)
  have e2 : rnT w (c + 1) = (rnT w c ++ (if 0 < c then [32] else [])) ++ Lib.itoa (w c) := rfl
  conv => whnf
  repeat (first | (refine go_F2 ?_; conv => whnf) | (refine lk_F2 ?_; conv => whnf))
  cases h5 : decide ((c : Int) > 0)
  · have h0 : ¬ 0 < c := by simpa using h5
    rw [if_neg h0, List.append_nil] at e2
    conv => whnf
    repeat (first | (refine go_F2 ?_; conv => whnf) | (refine lk_F2 ?_; conv => whnf))
    rw [e1]
    first | refine ⟨_, _, rfl, sc_F2 (hD), ?_⟩ | refine .inl ⟨_, _, rfl, sc_F2 (hD), ?_⟩
    conv => whnf
    repeat (first | (refine go_F2 ?_; conv => whnf) | (refine lk_F2 ?_; conv => whnf))
    refine ⟨c + 1, ?_, ?_, sim_of (rn := []) rfl ?_ ?_⟩
    · (dsimp only; omega)
    · exact okt_F2
    · ((repeat' (first | exact trivial | apply And.intro)) <;> (first | rfl | (exact vstrS (by rw [e2, ← bs_append]; rfl)) | exact leaf_F2))
    · ((repeat' (first | exact trivial | apply And.intro)) <;> ((first | refine ⟨_, _, rfl, rfl, ?_⟩ ); rfl))
  · have h0 : 0 < c := by simpa using h5
    rw [if_pos h0] at e2
    have h32 : ((bsOf (rnT w c)) ++ (⟨#[32]⟩ : ByteArray)).size ≤ 1000 := by rw [ByteArray.size_append, bs_size]; show _ + 1 ≤ 1000; omega
    have h1 : (⟨#[32]⟩ : ByteArray).size = 1 := rfl
    conv => whnf
    repeat (first | (refine go_F2 ?_; conv => whnf) | (refine lk_F2 ?_; conv => whnf))
    rw [e1]
    first | refine ⟨_, _, rfl, sc_F2 (hD), ?_⟩ | refine .inl ⟨_, _, rfl, sc_F2 (hD), ?_⟩
    conv => whnf
    repeat (first | (refine go_F2 ?_; conv => whnf) | (refine lk_F2 ?_; conv => whnf))
    refine ⟨c + 1, ?_, ?_, sim_of (rn := []) rfl ?_ ?_⟩
    · (dsimp only; omega)
    · exact okt_F2
    · ((repeat' (first | exact trivial | apply And.intro)) <;> (first | rfl | (exact vstrS (by rw [e2, ← bs_append, ← bs_append]; rfl)) | exact leaf_F2))
    · ((repeat' (first | exact trivial | apply And.intro)) <;> ((first | refine ⟨_, _, rfl, rfl, ?_⟩ ); rfl))
theorem specRainText_sat (r : Roof) (hr : r.In) (w : Nat → Int) (hw : RaiIn w) : Sat Tryd.prog 20 [roofD r, raiD w] (.v (.string (rainText r w))) := by
  refine sat_of_wp hMix tOk Tryd.func20 rfl rfl Tryd.ntmps20 rfl rfl Tryd.results20 (by kernel_rfl) ?_
  conv => whnf
  repeat (first | (refine go_F2 ?_; conv => whnf) | (refine lk_F2 ?_; conv => whnf))
  first | refine ⟨_, _, rfl, sc_F2 (l02Ok_sat r hr w hw), ?_⟩ | refine .inl ⟨_, _, rfl, sc_F2 (l02Ok_sat r hr w hw), ?_⟩
  conv => whnf
  repeat (first | (refine go_F2 ?_; conv => whnf) | (refine lk_F2 ?_; conv => whnf))
  cases hO : okN r w
  · conv => whnf
    repeat (first | (refine go_F2 ?_; conv => whnf) | (refine lk_F2 ?_; conv => whnf))
    first | refine ⟨rfl, _, rfl, ?_⟩ | refine ⟨_, rfl, ?_⟩
    skip
    unfold rainText; rw [hO]; rfl
  rw [show rainText r w = bsOf (rnT w (2 * r.w + 1).toNat) by unfold rainText; rw [if_pos hO]]
  conv => whnf
  repeat (first | (refine go_F2 ?_; conv => whnf) | (refine lk_F2 ?_; conv => whnf))
  first | refine ⟨_, _, rfl, sc_F2 (l02Text_sat r hr (okR_bounds (okN_R hO)) w (okN_w hO)), ?_⟩ | refine .inl ⟨_, _, rfl, sc_F2 (l02Text_sat r hr (okR_bounds (okN_R hO)) w (okN_w hO)), ?_⟩
  conv => whnf
  repeat (first | (refine go_F2 ?_; conv => whnf) | (refine lk_F2 ?_; conv => whnf))
  first | refine ⟨rfl, _, rfl, ?_⟩ | refine ⟨_, rfl, ?_⟩
  rfl
theorem fnExactRainText_sat (r : Roof) (hr : r.In) (w : Nat → Int) (hw : RaiIn w) : Sat Tryd.prog 5 [roofD r, raiD w] (.v (.bool true)) := by
  have s1 := specRainText_sat r hr w hw
  have s2 := implRainText_sat r hr w hw
  generalize rainText r w = x at s1 s2
  refine sat_of_wp hMix tOk Tryd.func5 rfl rfl Tryd.ntmps5 rfl rfl Tryd.results5 (by kernel_rfl) ?_
  conv => whnf
  repeat (first | (refine go_F2 ?_; conv => whnf) | (refine lk_F2 ?_; conv => whnf))
  first | refine ⟨_, _, rfl, sc_F2 (toRoof_sat r), ?_⟩ | refine .inl ⟨_, _, rfl, sc_F2 (toRoof_sat r), ?_⟩
  conv => whnf
  repeat (first | (refine go_F2 ?_; conv => whnf) | (refine lk_F2 ?_; conv => whnf))
  first | refine ⟨_, _, rfl, sc_F2 (toRain_sat w), ?_⟩ | refine .inl ⟨_, _, rfl, sc_F2 (toRain_sat w), ?_⟩
  conv => whnf
  repeat (first | (refine go_F2 ?_; conv => whnf) | (refine lk_F2 ?_; conv => whnf))
  first | refine ⟨_, _, rfl, sc_F2 (s1), ?_⟩ | refine .inl ⟨_, _, rfl, sc_F2 (s1), ?_⟩
  conv => whnf
  repeat (first | (refine go_F2 ?_; conv => whnf) | (refine lk_F2 ?_; conv => whnf))
  first | refine ⟨_, _, rfl, sc_F2 (toRoof_sat r), ?_⟩ | refine .inl ⟨_, _, rfl, sc_F2 (toRoof_sat r), ?_⟩
  conv => whnf
  repeat (first | (refine go_F2 ?_; conv => whnf) | (refine lk_F2 ?_; conv => whnf))
  first | refine ⟨_, _, rfl, sc_F2 (toRain_sat w), ?_⟩ | refine .inl ⟨_, _, rfl, sc_F2 (toRain_sat w), ?_⟩
  conv => whnf
  repeat (first | (refine go_F2 ?_; conv => whnf) | (refine lk_F2 ?_; conv => whnf))
  first | refine ⟨_, _, rfl, sc_F2 (s2), ?_⟩ | refine .inl ⟨_, _, rfl, sc_F2 (s2), ?_⟩
  conv => whnf
  repeat (first | (refine go_F2 ?_; conv => whnf) | (refine lk_F2 ?_; conv => whnf))
  rw [show (x.toList == x.toList) = true by simp]
  conv => whnf
  repeat (first | (refine go_F2 ?_; conv => whnf) | (refine lk_F2 ?_; conv => whnf))
  first | refine ⟨rfl, _, rfl, ?_⟩ | refine ⟨_, rfl, ?_⟩
  rfl
end Go.Proofs.YtdbhfobnmlogeaaDoor
/- Plain words: lists of things of a fixed number of cells; lists of roofs. -/
set_option linter.unusedVariables false
set_option linter.unusedSimpArgs false
namespace Go.V
section
variable {α : Type} {f : α → List Value} {n : Nat}
theorem fm_len (hf : ∀ x, (f x).length = n) : ∀ l : List α, (l.flatMap f).length = l.length * n
  | [] => by simp
  | x :: l => by rw [List.flatMap_cons, List.length_append, hf, fm_len hf l, List.length_cons, Nat.succ_mul]; omega
end
/-- Lists of roofs. -/
def rx (rs : List Roof) (i : Nat) : Roof := rs.getD i zeroR
@[irreducible] def roofsC (rs : List Roof) : List Value := rs.flatMap roofC
theorem roofsC_def (rs : List Roof) : roofsC rs = rs.flatMap roofC := by unfold roofsC; rfl
@[simp] theorem roofsC_len (rs : List Roof) : (roofsC rs).length = rs.length * 67 := by rw [roofsC_def, fm_len roofC_len]
def roofsD (m : Bool) (rs : List Roof) : D := .row m 67 (.v (.agg ⟨roofsC rs⟩)) rs.length
/-- What a pointer into a list of cells leads to, told as cells of its own. -/
theorem Rep.refSub {w : World} {base : Nat} {loc : Loc} {m : Bool} {xs ys : List Value} {off n : Nat} {y : Value} (h : Rep w base loc (.ref m (.v (.agg ⟨xs⟩)) off) y) (hn : (xs.drop off).take n = ys) (hl : ys.length = n) (hpos : 0 < n) :
    Rep w base loc (.ref m (.v (.agg ⟨ys⟩)) 0) y := by
  simp only [Rep] at h ⊢
  obtain ⟨b, o, zs, rfl, hat, hav, hm, hz, hfl⟩ := h
  cases hz
  refine ⟨b, o + off, ys, rfl, ?_, hav, hm, rfl, ?_⟩
  · obtain ⟨k, e, fr, h1, h2, h3⟩ := hat
    have hle : off + n ≤ xs.length := by
      have := congrArg List.length hn
      simp at this
      omega
    refine ⟨k, e, fr, h1, by omega, ?_⟩
    have : ((k.toList.drop o).take xs.length).drop off = xs.drop off := by rw [h3]
    rw [hl, ← hn, ← this, List.drop_take, List.take_take, List.drop_drop, show min n (xs.length - off) = n by omega]
  · simp only [Flat, List.all_eq_true] at hfl ⊢
    intro x hx
    rw [← hn] at hx
    exact hfl x (List.mem_of_mem_drop (List.mem_of_mem_take hx))
theorem Sat.sub {P : Program} {g : FuncId} {m : Bool} {xs ys : List Value} {off n : Nat} {rest : List D} {res : D} (h : Sat P g (.ref m (.v (.agg ⟨ys⟩)) 0 :: rest) res) (hn : (xs.drop off).take n = ys) (hl : ys.length = n) (hpos : 0 < n) :
    Sat P g (.ref m (.v (.agg ⟨xs⟩)) off :: rest) res := by
  refine ⟨h.1, fun w vs hgl hr => h.2 w vs hgl ?_⟩
  simp only [RepL] at hr ⊢
  obtain ⟨y, yss, rfl, h1, h2⟩ := hr
  exact ⟨y, yss, rfl, h1.refSub hn hl hpos, h2⟩
end Go.V
