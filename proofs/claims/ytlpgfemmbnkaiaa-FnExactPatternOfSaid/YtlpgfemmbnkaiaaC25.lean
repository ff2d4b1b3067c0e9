/- Contracts: patterns found again, the reference's side, and the law. -/
import Derived.Test.YtlpgfemmbnkaiaaC24
set_option linter.unusedVariables false
set_option linter.unusedSimpArgs false
namespace Go.V
theorem shl_pow {n : Nat} (h : n ≤ 5) : IntKind.i64.wrap (1 * 2 ^ (min (IntKind.u64.wrap (n : Int)).toNat IntKind.i64.bits)) = ((2 ^ n : Nat) : Int) := by
  rw [wu64 (by omega) (by omega), Int.toNat_natCast]
  have : n = 0 ∨ n = 1 ∨ n = 2 ∨ n = 3 ∨ n = 4 ∨ n = 5 := by omega
  rcases this with rfl | rfl | rfl | rfl | rfl | rfl <;> decide
theorem shr_bit {j k : Nat} (h : k ≤ 5) : (((j : Int).fdiv (2 ^ (min (IntKind.u64.wrap (k : Int)).toNat IntKind.i64.bits))).tmod 2) = ((j / 2 ^ k % 2 : Nat) : Int) := by
  rw [wu64 (by omega) (by omega), Int.toNat_natCast, show min k IntKind.i64.bits = k by simp [IntKind.bits]; omega]
  rw [show ((2 : Int) ^ k) = ((2 ^ k : Nat) : Int) by simp, Int.fdiv_eq_ediv_of_nonneg _ (Int.natCast_nonneg _)]
  rfl
def brB : ByteArray := ⟨#[98, 114]⟩
theorem br_letter {x : Nat} (h : x < 2) : brB.extract (x : Int).toNat (((x + 1 : Nat) : Int)).toNat = if x % 2 = 1 then letR else letB := by
  have : x = 0 ∨ x = 1 := by omega
  rcases this with rfl | rfl <;> rfl
theorem word_step {t n j : Nat} (h : t < n) : word t (j / 2 ^ (n - t)) ++ (if j / 2 ^ (n - 1 - t) % 2 % 2 = 1 then letR else letB) = word (t + 1) (j / 2 ^ (n - (t + 1))) := by
  rw [show n - 1 - t = n - (t + 1) by omega]
  show _ = word t (j / 2 ^ (n - (t + 1)) / 2) ++ (if j / 2 ^ (n - (t + 1)) % 2 = 1 then letR else letB)
  rw [Nat.div_div_eq_div_mul, ← Nat.pow_succ, show (n - (t + 1)).succ = n - t by omega, Nat.mod_mod]
end Go.V
namespace Go.Proofs.Ytlpgfemmbnkaiaa
open Go.V
theorem specPatternOf_sat (r : Roof) (hr : r.In) (f : Nat → Int) (hf : RowIn f) (m : Int) (hm : I64 m) : Sat Try.prog 39 [roofD r, row8D f, .v (.int .i64 m)] (pofD r f m) := by
  refine sat_of_wp hMix tOk Try.func39 rfl rfl Try.ntmps39 rfl rfl Try.results39 (by kernel_rfl) ?_
  conv => whnf
  repeat (first | (refine And.intro (by first | (with_reducible refine strLe1 ?_; omega) | exact rfl | decide | omega | (simp [splice]; done) | (constructor <;> omega) | (simp [splice]; omega)) ?_; conv => whnf) | (refine optK_of (wordA (by omega)) ?_; conv => whnf) | (refine optK_of (rowN (by omega)) ?_; conv => whnf))
  first | refine ⟨_, _, rfl, Sat.of_eq (l07Colours_sat r hr f hf) (by repeat (first | rfl | exact vfull (by first | (simp [splice]; done) | (simp [splice]; omega)) | exact rfull (by first | (simp [splice]; done) | (simp [splice]; omega)) | exact vplace (by simp; done) (by omega) | exact vrow (by simp; done) (by omega) | exact vtiles (by simp) | exact vsplice (by simp) (by simp) | refine ceq ?_ ?_ | refine Eq.trans (vsplice (by first | (simp; done) | (simp; omega)) (by first | (simp; done) | (simp; omega))) ?_)), ?_⟩ | refine .inl ⟨_, _, rfl, Sat.of_eq (l07Colours_sat r hr f hf) (by repeat (first | rfl | exact vfull (by first | (simp [splice]; done) | (simp [splice]; omega)) | exact rfull (by first | (simp [splice]; done) | (simp [splice]; omega)) | exact vplace (by simp; done) (by omega) | exact vrow (by simp; done) (by omega) | exact vtiles (by simp) | exact vsplice (by simp) (by simp) | refine ceq ?_ ?_ | refine Eq.trans (vsplice (by first | (simp; done) | (simp; omega)) (by first | (simp; done) | (simp; omega))) ?_)), ?_⟩
  conv => whnf
  repeat (first | (refine And.intro (by first | (with_reducible refine strLe1 ?_; omega) | exact rfl | decide | omega | (simp [splice]; done) | (constructor <;> omega) | (simp [splice]; omega)) ?_; conv => whnf) | (refine optK_of (wordA (by omega)) ?_; conv => whnf) | (refine optK_of (rowN (by omega)) ?_; conv => whnf))
  cases h1 : okC r f
  · conv => whnf
    repeat (first | (refine And.intro (by first | (with_reducible refine strLe1 ?_; omega) | exact rfl | decide | omega | (simp [splice]; done) | (constructor <;> omega) | (simp [splice]; omega)) ?_; conv => whnf) | (refine optK_of (wordA (by omega)) ?_; conv => whnf) | (refine optK_of (rowN (by omega)) ?_; conv => whnf))
    first | refine ⟨rfl, _, rfl, ?_⟩ | refine ⟨_, rfl, ?_⟩
    skip
    unfold pofD; rw [h1]; rfl
  conv => whnf
  repeat (first | (refine And.intro (by first | (with_reducible refine strLe1 ?_; omega) | exact rfl | decide | omega | (simp [splice]; done) | (constructor <;> omega) | (simp [splice]; omega)) ?_; conv => whnf) | (refine optK_of (wordA (by omega)) ?_; conv => whnf) | (refine optK_of (rowN (by omega)) ?_; conv => whnf))
  first | refine ⟨_, _, rfl, Sat.of_eq (l00In_sat _ _ _) (by repeat (first | rfl | exact vfull (by first | (simp [splice]; done) | (simp [splice]; omega)) | exact rfull (by first | (simp [splice]; done) | (simp [splice]; omega)) | exact vplace (by simp; done) (by omega) | exact vrow (by simp; done) (by omega) | exact vtiles (by simp) | exact vsplice (by simp) (by simp) | refine ceq ?_ ?_ | refine Eq.trans (vsplice (by first | (simp; done) | (simp; omega)) (by first | (simp; done) | (simp; omega))) ?_)), ?_⟩ | refine .inl ⟨_, _, rfl, Sat.of_eq (l00In_sat _ _ _) (by repeat (first | rfl | exact vfull (by first | (simp [splice]; done) | (simp [splice]; omega)) | exact rfull (by first | (simp [splice]; done) | (simp [splice]; omega)) | exact vplace (by simp; done) (by omega) | exact vrow (by simp; done) (by omega) | exact vtiles (by simp) | exact vsplice (by simp) (by simp) | refine ceq ?_ ?_ | refine Eq.trans (vsplice (by first | (simp; done) | (simp; omega)) (by first | (simp; done) | (simp; omega))) ?_)), ?_⟩
  conv => whnf
  repeat (first | (refine And.intro (by first | (with_reducible refine strLe1 ?_; omega) | exact rfl | decide | omega | (simp [splice]; done) | (constructor <;> omega) | (simp [splice]; omega)) ?_; conv => whnf) | (refine optK_of (wordA (by omega)) ?_; conv => whnf) | (refine optK_of (rowN (by omega)) ?_; conv => whnf))
  cases h2 : (decide (m ≥ 1) && decide (m ≤ 5))
  · conv => whnf
    repeat (first | (refine And.intro (by first | (with_reducible refine strLe1 ?_; omega) | exact rfl | decide | omega | (simp [splice]; done) | (constructor <;> omega) | (simp [splice]; omega)) ?_; conv => whnf) | (refine optK_of (wordA (by omega)) ?_; conv => whnf) | (refine optK_of (rowN (by omega)) ?_; conv => whnf))
    first | refine ⟨rfl, _, rfl, ?_⟩ | refine ⟨_, rfl, ?_⟩
    skip
    have : ¬ (1 ≤ m ∧ m ≤ 5) := by simp at h2; omega
    unfold pofD; rw [h1, if_pos rfl, if_neg this]; rfl
  have hm15 : 1 ≤ m ∧ m ≤ 5 := by simpa using h2
  have hb := okC_bounds h1
  have hres : pofD r f m = match findN r f m.toNat with
    | some (n, j, s) => .tup [.v (.string (word n j)), .v (.int .i64 s), .v (.int .i64 0)]
    | none => .tup [.v (.string ⟨#[]⟩), .v (.int .i64 0), .v (.int .i64 6)] := by unfold pofD; rw [h1, if_pos rfl, if_pos hm15]; rfl
  rw [hres]
  obtain ⟨M, rfl⟩ := eq_toNat (x := m) (by omega)
  rw [Int.toNat_natCast]
  conv => whnf
  repeat (first | (refine And.intro (by first | (with_reducible refine strLe1 ?_; omega) | exact rfl | decide | omega | (simp [splice]; done) | (constructor <;> omega) | (simp [splice]; omega)) ?_; conv => whnf) | (refine optK_of (wordA (by omega)) ?_; conv => whnf) | (refine optK_of (rowN (by omega)) ?_; conv => whnf))
  refine loop_rule (α := Nat) (fun q => [(2, .v (.int .i64 M)), (3, .ptr (3, 0, 0) 0), (4, .ptr (4, 0, 0) 0), (9, .v (.int .i64 ((q + 1 : Nat) : Int)))]) (fun q => [((3, 0, 0), roofD r), ((4, 0, 0), row8D f)]) (fun q => q ≤ M ∧ ∀ k, k < q → findJ r f (k + 1) = none) (fun q => M - q) (0) ?g1a (sim_of (rn := [((3, 0, 0), (3, 0, 0)), ((4, 0, 0), (4, 0, 0))]) rfl ?g1b ?g1c) ?g1d
  case g1b => ((repeat' (first | exact trivial | apply And.intro)) <;> (first | rfl | exact succ8 (by omega) | exact succ64 (by omega) | exact CapOk.fn (by assumption) _ _ | exact vintS (by omega) | exact vintS (by rw [w64 (by omega) (by omega)]; omega) | exact vintS (by rw [w8 (by omega) (by omega)]; omega) | exact vslcS (by omega) | exact vslcS (by simp)))
  case g1c => ((repeat' (first | exact trivial | apply And.intro)) <;> (refine ⟨_, _, rfl, rfl, ?_⟩; first | rfl | (rfl)))
  case g1a => exact ⟨Nat.zero_le _, by omega⟩
  rintro q ⟨hq, hno⟩
  conv => whnf
  repeat (first | (refine And.intro (by first | (with_reducible refine strLe1 ?_; omega) | exact rfl | decide | omega | (simp [splice]; done) | (constructor <;> omega) | (simp [splice]; omega)) ?_; conv => whnf) | (refine optK_of (wordA (by omega)) ?_; conv => whnf) | (refine optK_of (rowN (by omega)) ?_; conv => whnf))
  cases h3 : decide (((q + 1 : Nat) : Int) ≤ (M : Int))
  · have hqM : q = M := by simp at h3; omega
    subst hqM
    have : findN r f q = none := findSome_none fun j hj => by rw [hno j hj]; rfl
    rw [this]
    conv => whnf
    repeat (first | (refine And.intro (by first | (with_reducible refine strLe1 ?_; omega) | exact rfl | decide | omega | (simp [splice]; done) | (constructor <;> omega) | (simp [splice]; omega)) ?_; conv => whnf) | (refine optK_of (wordA (by omega)) ?_; conv => whnf) | (refine optK_of (rowN (by omega)) ?_; conv => whnf))
    first | refine ⟨rfl, _, rfl, ?_⟩ | refine ⟨_, rfl, ?_⟩
    rfl
  have hqM : q < M := by simp at h3; omega
  have hpow : 2 ^ (q + 1) ≤ 32 := by
    have : 2 ^ (q + 1) ≤ 2 ^ 5 := Nat.pow_le_pow_right (by omega) (by omega)
    omega
  conv => whnf
  repeat (first | (refine And.intro (by first | (with_reducible refine strLe1 ?_; omega) | exact rfl | decide | omega | (simp [splice]; done) | (constructor <;> omega) | (simp [splice]; omega)) ?_; conv => whnf) | (refine optK_of (wordA (by omega)) ?_; conv => whnf) | (refine optK_of (rowN (by omega)) ?_; conv => whnf))
  refine loop_rule (α := Nat) (fun j => [(2, .v (.int .i64 M)), (3, .ptr (3, 0, 0) 0), (4, .ptr (4, 0, 0) 0), (9, .v (.int .i64 ((q + 1 : Nat) : Int))), (10, .v (.int .i64 j))]) (fun j => [((3, 0, 0), roofD r), ((4, 0, 0), row8D f)]) (fun j => j ≤ 2 ^ (q + 1) ∧ ∀ k, k < j → findS r f (q + 1) k = none) (fun j => 2 ^ (q + 1) - j) (0) ?g2a (sim_of (rn := [((3, 0, 0), (3, 0, 0)), ((4, 0, 0), (4, 0, 0))]) rfl ?g2b ?g2c) ?g2d
  case g2b => ((repeat' (first | exact trivial | apply And.intro)) <;> (first | rfl | exact succ8 (by omega) | exact succ64 (by omega) | exact CapOk.fn (by assumption) _ _ | exact vintS (by omega) | exact vintS (by rw [w64 (by omega) (by omega)]; omega) | exact vintS (by rw [w8 (by omega) (by omega)]; omega) | exact vslcS (by omega) | exact vslcS (by simp)))
  case g2c => ((repeat' (first | exact trivial | apply And.intro)) <;> (refine ⟨_, _, rfl, rfl, ?_⟩; first | rfl | (rfl)))
  case g2a => exact ⟨Nat.zero_le _, by omega⟩
  rintro j ⟨hj, hnoj⟩
  conv => whnf
  repeat (first | (refine And.intro (by first | (with_reducible refine strLe1 ?_; omega) | exact rfl | decide | omega | (simp [splice]; done) | (constructor <;> omega) | (simp [splice]; omega)) ?_; conv => whnf) | (refine optK_of (wordA (by omega)) ?_; conv => whnf) | (refine optK_of (rowN (by omega)) ?_; conv => whnf))
  rw [shl_pow (n := q + 1) (by omega)]
  cases h4 : decide ((j : Int) < ((2 ^ (q + 1) : Nat) : Int))
  · have hjn : j = 2 ^ (q + 1) := by simp only [decide_eq_false_iff_not] at h4; omega
    have hJ : findJ r f (q + 1) = none := findSome_none fun k hk => by rw [hnoj k (by omega)]; rfl
    have hno' := below_succ (p := fun k => findJ r f (k + 1) = none) hno hJ
    conv => whnf
    repeat (first | (refine And.intro (by first | (with_reducible refine strLe1 ?_; omega) | exact rfl | decide | omega | (simp [splice]; done) | (constructor <;> omega) | (simp [splice]; omega)) ?_; conv => whnf) | (refine optK_of (wordA (by omega)) ?_; conv => whnf) | (refine optK_of (rowN (by omega)) ?_; conv => whnf))
    refine ⟨q + 1, ?g3a, ?g3b, sim_of (rn := [((3, 0, 0), (3, 0, 0)), ((4, 0, 0), (4, 0, 0))]) rfl ?g3c ?g3d⟩
    case g3a => (dsimp only; omega)
    case g3b => exact ⟨by omega, hno'⟩
    case g3c => ((repeat' (first | exact trivial | apply And.intro)) <;> (first | rfl | exact succ8 (by omega) | exact succ64 (by omega) | exact CapOk.fn (by assumption) _ _ | exact vintS (by omega) | exact vintS (by rw [w64 (by omega) (by omega)]; omega) | exact vintS (by rw [w8 (by omega) (by omega)]; omega) | exact vslcS (by omega) | exact vslcS (by simp)))
    case g3d => ((repeat' (first | exact trivial | apply And.intro)) <;> (refine ⟨_, _, rfl, rfl, ?_⟩; first | rfl | (rfl)))
  have hjn : j < 2 ^ (q + 1) := by simp only [decide_eq_true_eq] at h4; omega
  have ek : IntKind.i64.wrap (((q + 1 : Nat) : Int) - 1) = (q : Int) := by rw [w64 (by omega) (by omega)]; omega
  conv => whnf
  repeat (first | (refine And.intro (by first | (with_reducible refine strLe1 ?_; omega) | exact rfl | decide | omega | (simp [splice]; done) | (constructor <;> omega) | (simp [splice]; omega)) ?_; conv => whnf) | (refine optK_of (wordA (by omega)) ?_; conv => whnf) | (refine optK_of (rowN (by omega)) ?_; conv => whnf))
  rw [ek]
  have hj0 : j / 2 ^ (q + 1) = 0 := Nat.div_eq_of_lt hjn
  refine loop_rule (α := Nat) (fun t => [(2, .v (.int .i64 M)), (3, .ptr (3, 0, 0) 0), (4, .ptr (4, 0, 0) 0), (9, .v (.int .i64 ((q + 1 : Nat) : Int))), (10, .v (.int .i64 j)), (11, .v (.string (word t (j / 2 ^ (q + 1 - t))))), (12, .v (.int .i64 ((q : Int) - t)))]) (fun t => [((3, 0, 0), roofD r), ((4, 0, 0), row8D f)]) (fun t => t ≤ q + 1) (fun t => q + 1 - t) (0) ?g4a (sim_of (rn := [((3, 0, 0), (3, 0, 0)), ((4, 0, 0), (4, 0, 0))]) rfl ?g4b ?g4c) ?g4d
  case g4b => ((repeat' (first | exact trivial | apply And.intro)) <;> (first | rfl | exact succ8 (by omega) | exact succ64 (by omega) | exact CapOk.fn (by assumption) _ _ | exact vintS (by omega) | exact vintS (by rw [w64 (by omega) (by omega)]; omega) | exact vintS (by rw [w8 (by omega) (by omega)]; omega) | exact vslcS (by omega) | exact vslcS (by simp)))
  case g4c => ((repeat' (first | exact trivial | apply And.intro)) <;> (refine ⟨_, _, rfl, rfl, ?_⟩; first | rfl | (rfl)))
  case g4a => first | omega | (dsimp only; omega) | ((repeat' apply And.intro) <;> omega) | (dsimp only; (repeat' apply And.intro) <;> omega) | trivial
  intro t ht
  conv => whnf
  repeat (first | (refine And.intro (by first | (with_reducible refine strLe1 ?_; omega) | exact rfl | decide | omega | (simp [splice]; done) | (constructor <;> omega) | (simp [splice]; omega)) ?_; conv => whnf) | (refine optK_of (wordA (by omega)) ?_; conv => whnf) | (refine optK_of (rowN (by omega)) ?_; conv => whnf))
  cases h7 : decide ((q : Int) - t ≥ 0)
  case true =>
    have htq : t ≤ q := by simp at h7; omega
    have hz := word_size t (j / 2 ^ (q + 1 - t))
    rw [show (q : Int) - (t : Int) = ((q - t : Nat) : Int) by omega]
    conv => whnf
    refine And.intro (by rw [wu64 (by omega) (by omega)]; omega) ?_
    conv => whnf
    refine And.intro (by decide) ?_
    conv => whnf
    rw [shr_bit (k := q - t) (by omega)]
    refine And.intro (by rw [wu64 (by omega) (by omega)]; omega) ?_
    conv => whnf
    refine And.intro (by decide) ?_
    conv => whnf
    rw [shr_bit (k := q - t) (by omega)]
    have hx : j / 2 ^ (q - t) % 2 < 2 := Nat.mod_lt _ (by omega)
    generalize hxe : j / 2 ^ (q - t) % 2 = x at *
    rw [show IntKind.i64.wrap ((x : Int) + 1) = ((x + 1 : Nat) : Int) by rw [w64 (by omega) (by omega)]; omega]
    refine And.intro ⟨by simp, by simp; omega, by show ((x + 1 : Nat) : Int) ≤ 2; omega⟩ ?_
    conv => whnf
    have hlet : brB.extract (x : Int).toNat (((x + 1 : Nat) : Int)).toNat = if x % 2 = 1 then letR else letB := br_letter hx
    have hls : (if x % 2 = 1 then letR else letB).size = 1 := by split <;> rfl
    have hw : word t (j / 2 ^ (q + 1 - t)) ++ (if x % 2 = 1 then letR else letB) = word (t + 1) (j / 2 ^ (q + 1 - (t + 1))) := by
      rw [← word_step (n := q + 1) (by omega), ← hxe]; rfl
    refine And.intro (strLe (by
      show (word t (j / 2 ^ (q + 1 - t))).size + (brB.extract (x : Int).toNat (((x + 1 : Nat) : Int)).toNat).size ≤ _
      rw [hlet, hls]; omega)) ?_
    conv => whnf
    repeat (first | (refine And.intro (by first | (with_reducible refine strLe1 ?_; omega) | exact rfl | decide | omega | (simp [splice]; done) | (constructor <;> omega) | (simp [splice]; omega)) ?_; conv => whnf) | (refine optK_of (wordA (by omega)) ?_; conv => whnf) | (refine optK_of (rowN (by omega)) ?_; conv => whnf))
    refine ⟨t + 1, ?g5a, ?g5b, sim_of (rn := [((3, 0, 0), (3, 0, 0)), ((4, 0, 0), (4, 0, 0))]) rfl ?g5c ?g5d⟩
    case g5a => (dsimp only; omega)
    case g5b => first | omega | (dsimp only; omega) | ((repeat' apply And.intro) <;> omega) | (dsimp only; (repeat' apply And.intro) <;> omega) | trivial
    case g5c => ((repeat' (first | exact trivial | apply And.intro)) <;> (first | rfl | (exact vstrS (hw.symm.trans (by rw [← hlet]; rfl))) | exact succ8 (by omega) | exact succ64 (by omega) | exact CapOk.fn (by assumption) _ _ | exact vintS (by omega) | exact vintS (by rw [w64 (by omega) (by omega)]; omega) | exact vintS (by rw [w8 (by omega) (by omega)]; omega) | exact vslcS (by omega) | exact vslcS (by simp)))
    case g5d => ((repeat' (first | exact trivial | apply And.intro)) <;> (refine ⟨_, _, rfl, rfl, ?_⟩; first | rfl | (rfl)))
  have htq : t = q + 1 := by simp at h7; omega
  subst htq
  rw [Nat.sub_self, Nat.pow_zero, Nat.div_one]
  conv => whnf
  repeat (first | (refine And.intro (by first | (with_reducible refine strLe1 ?_; omega) | exact rfl | decide | omega | (simp [splice]; done) | (constructor <;> omega) | (simp [splice]; omega)) ?_; conv => whnf) | (refine optK_of (wordA (by omega)) ?_; conv => whnf) | (refine optK_of (rowN (by omega)) ?_; conv => whnf))
  refine loop_rule (α := Nat) (fun s => [(2, .v (.int .i64 M)), (3, .ptr (3, 0, 0) 0), (4, .ptr (4, 0, 0) 0), (9, .v (.int .i64 ((q + 1 : Nat) : Int))), (10, .v (.int .i64 j)), (11, .v (.string (word (q + 1) j))), (13, .v (.int .i64 s))]) (fun s => [((3, 0, 0), roofD r), ((4, 0, 0), row8D f)]) (fun s => s ≤ q + 1 ∧ ∀ k, k < s → isPat r f (q + 1) j k = false) (fun s => q + 1 - s) (0) ?g6a (sim_of (rn := [((3, 0, 0), (3, 0, 0)), ((4, 0, 0), (4, 0, 0))]) rfl ?g6b ?g6c) ?g6d
  case g6b => ((repeat' (first | exact trivial | apply And.intro)) <;> (first | rfl | exact succ8 (by omega) | exact succ64 (by omega) | exact CapOk.fn (by assumption) _ _ | exact vintS (by omega) | exact vintS (by rw [w64 (by omega) (by omega)]; omega) | exact vintS (by rw [w8 (by omega) (by omega)]; omega) | exact vslcS (by omega) | exact vslcS (by simp)))
  case g6c => ((repeat' (first | exact trivial | apply And.intro)) <;> (refine ⟨_, _, rfl, rfl, ?_⟩; first | rfl | (rfl)))
  case g6a => exact ⟨Nat.zero_le _, by omega⟩
  rintro s ⟨hs, hnos⟩
  conv => whnf
  repeat (first | (refine And.intro (by first | (with_reducible refine strLe1 ?_; omega) | exact rfl | decide | omega | (simp [splice]; done) | (constructor <;> omega) | (simp [splice]; omega)) ?_; conv => whnf) | (refine optK_of (wordA (by omega)) ?_; conv => whnf) | (refine optK_of (rowN (by omega)) ?_; conv => whnf))
  cases h5 : decide ((s : Int) < ((q + 1 : Nat) : Int))
  · have hsq : s = q + 1 := by simp only [decide_eq_false_iff_not] at h5; omega
    have hS : findS r f (q + 1) j = none := find_none fun k hk => hnos k (by omega)
    have hnoj' := below_succ (p := fun k => findS r f (q + 1) k = none) hnoj hS
    conv => whnf
    repeat (first | (refine And.intro (by first | (with_reducible refine strLe1 ?_; omega) | exact rfl | decide | omega | (simp [splice]; done) | (constructor <;> omega) | (simp [splice]; omega)) ?_; conv => whnf) | (refine optK_of (wordA (by omega)) ?_; conv => whnf) | (refine optK_of (rowN (by omega)) ?_; conv => whnf))
    refine ⟨j + 1, ?g7a, ?g7b, sim_of (rn := [((3, 0, 0), (3, 0, 0)), ((4, 0, 0), (4, 0, 0))]) rfl ?g7c ?g7d⟩
    case g7a => (dsimp only; omega)
    case g7b => exact ⟨by omega, hnoj'⟩
    case g7c => ((repeat' (first | exact trivial | apply And.intro)) <;> (first | rfl | exact succ8 (by omega) | exact succ64 (by omega) | exact CapOk.fn (by assumption) _ _ | exact vintS (by omega) | exact vintS (by rw [w64 (by omega) (by omega)]; omega) | exact vintS (by rw [w8 (by omega) (by omega)]; omega) | exact vslcS (by omega) | exact vslcS (by simp)))
    case g7d => ((repeat' (first | exact trivial | apply And.intro)) <;> (refine ⟨_, _, rfl, rfl, ?_⟩; first | rfl | (rfl)))
  have hsq : s < q + 1 := by simp only [decide_eq_true_eq] at h5; omega
  conv => whnf
  repeat (first | (refine And.intro (by first | (with_reducible refine strLe1 ?_; omega) | exact rfl | decide | omega | (simp [splice]; done) | (constructor <;> omega) | (simp [splice]; omega)) ?_; conv => whnf) | (refine optK_of (wordA (by omega)) ?_; conv => whnf) | (refine optK_of (rowN (by omega)) ?_; conv => whnf))
  first | refine ⟨_, _, rfl, Sat.of_eq (l07Make_sat r hr hb (word (q + 1) j) (by simp; omega) s (by omega)) (by repeat (first | rfl | exact vfull (by first | (simp [splice]; done) | (simp [splice]; omega)) | exact rfull (by first | (simp [splice]; done) | (simp [splice]; omega)) | exact vplace (by simp; done) (by omega) | exact vrow (by simp; done) (by omega) | exact vtiles (by simp) | exact vsplice (by simp) (by simp) | refine ceq ?_ ?_ | refine Eq.trans (vsplice (by first | (simp; done) | (simp; omega)) (by first | (simp; done) | (simp; omega))) ?_)), ?_⟩ | refine .inl ⟨_, _, rfl, Sat.of_eq (l07Make_sat r hr hb (word (q + 1) j) (by simp; omega) s (by omega)) (by repeat (first | rfl | exact vfull (by first | (simp [splice]; done) | (simp [splice]; omega)) | exact rfull (by first | (simp [splice]; done) | (simp [splice]; omega)) | exact vplace (by simp; done) (by omega) | exact vrow (by simp; done) (by omega) | exact vtiles (by simp) | exact vsplice (by simp) (by simp) | refine ceq ?_ ?_ | refine Eq.trans (vsplice (by first | (simp; done) | (simp; omega)) (by first | (simp; done) | (simp; omega))) ?_)), ?_⟩
  conv => whnf
  repeat (first | (refine And.intro (by first | (with_reducible refine strLe1 ?_; omega) | exact rfl | decide | omega | (simp [splice]; done) | (constructor <;> omega) | (simp [splice]; omega)) ?_; conv => whnf) | (refine optK_of (wordA (by omega)) ?_; conv => whnf) | (refine optK_of (rowN (by omega)) ?_; conv => whnf))
  refine ⟨_, eqAgg_eq (f := patR r (word (q + 1) j) s) (g := f) (by rw [splice_all (by simp), take_drop0 (by simp)]) (take_drop0 (by simp)) (acc_in _ _ _) hf, ?_⟩
  conv => whnf
  rw [show eq8 (patR r (word (q + 1) j) s) f = isPat r f (q + 1) j s from rfl]
  cases h6 : isPat r f (q + 1) j s
  · have hnos' := below_succ (p := fun k => isPat r f (q + 1) j k = false) hnos h6
    conv => whnf
    repeat (first | (refine And.intro (by first | (with_reducible refine strLe1 ?_; omega) | exact rfl | decide | omega | (simp [splice]; done) | (constructor <;> omega) | (simp [splice]; omega)) ?_; conv => whnf) | (refine optK_of (wordA (by omega)) ?_; conv => whnf) | (refine optK_of (rowN (by omega)) ?_; conv => whnf))
    refine ⟨s + 1, ?g8a, ?g8b, sim_of (rn := [((3, 0, 0), (3, 0, 0)), ((4, 0, 0), (4, 0, 0))]) rfl ?g8c ?g8d⟩
    case g8a => (dsimp only; omega)
    case g8b => exact ⟨by omega, hnos'⟩
    case g8c => ((repeat' (first | exact trivial | apply And.intro)) <;> (first | rfl | exact succ8 (by omega) | exact succ64 (by omega) | exact CapOk.fn (by assumption) _ _ | exact vintS (by omega) | exact vintS (by rw [w64 (by omega) (by omega)]; omega) | exact vintS (by rw [w8 (by omega) (by omega)]; omega) | exact vslcS (by omega) | exact vslcS (by simp)))
    case g8d => ((repeat' (first | exact trivial | apply And.intro)) <;> (refine ⟨_, _, rfl, rfl, ?_⟩; first | rfl | (rfl)))
  have hS : findS r f (q + 1) j = some s := find_some hsq h6 hnos
  have hJ : findJ r f (q + 1) = some (j, s) := findSome_some (s := j) hjn (by rw [hS]; rfl) fun k hk => by rw [hnoj k hk]; rfl
  have hN : findN r f M = some (q + 1, j, s) := findSome_some (s := q) hqM (by rw [hJ]; rfl) fun k hk => by rw [hno k hk]; rfl
  rw [hN]
  conv => whnf
  repeat (first | (refine And.intro (by first | (with_reducible refine strLe1 ?_; omega) | exact rfl | decide | omega | (simp [splice]; done) | (constructor <;> omega) | (simp [splice]; omega)) ?_; conv => whnf) | (refine optK_of (wordA (by omega)) ?_; conv => whnf) | (refine optK_of (rowN (by omega)) ?_; conv => whnf))
  first | refine ⟨rfl, _, rfl, ?_⟩ | refine ⟨_, rfl, ?_⟩
  rfl
theorem pofD_eq (r : Roof) (f : Nat → Int) (m : Int) : ∃ (b : ByteArray) (x y : Int), pofD r f m = .tup [.v (.string b), .v (.int .i64 x), .v (.int .i64 y)] := by
  unfold pofD
  split
  · split
    · split
      · exact ⟨_, _, _, rfl⟩
      · exact ⟨_, _, _, rfl⟩
    · exact ⟨_, _, _, rfl⟩
  · exact ⟨_, _, _, rfl⟩
theorem fnExactPatternOf_sat (r : Roof) (hr : r.In) (f : Nat → Int) (hf : RowIn f) (m : Int) (hm : I64 m) : Sat Try.prog 11 [roofD r, row8D f, .v (.int .i64 m)] (.v (.bool true)) := by
  have s1 := specPatternOf_sat r hr f hf m hm
  have s2 := patternOf_sat r hr f hf m hm
  obtain ⟨b, x, y, e⟩ := pofD_eq r f m
  rw [e] at s1 s2
  refine sat_of_wp hMix tOk Try.func11 rfl rfl Try.ntmps11 rfl rfl Try.results11 (by kernel_rfl) ?_
  conv => whnf
  repeat (first | (refine And.intro (by first | (with_reducible refine strLe1 ?_; omega) | exact rfl | decide | omega | (simp [splice]; done) | (constructor <;> omega) | (simp [splice]; omega)) ?_; conv => whnf) | (refine optK_of (wordA (by omega)) ?_; conv => whnf) | (refine optK_of (rowN (by omega)) ?_; conv => whnf))
  first | refine ⟨_, _, rfl, Sat.of_eq (toRoof_sat r) (by repeat (first | rfl | exact vfull (by first | (simp [splice]; done) | (simp [splice]; omega)) | exact rfull (by first | (simp [splice]; done) | (simp [splice]; omega)) | exact vplace (by simp; done) (by omega) | exact vrow (by simp; done) (by omega) | exact vtiles (by simp) | exact vsplice (by simp) (by simp) | refine ceq ?_ ?_ | refine Eq.trans (vsplice (by first | (simp; done) | (simp; omega)) (by first | (simp; done) | (simp; omega))) ?_)), ?_⟩ | refine .inl ⟨_, _, rfl, Sat.of_eq (toRoof_sat r) (by repeat (first | rfl | exact vfull (by first | (simp [splice]; done) | (simp [splice]; omega)) | exact rfull (by first | (simp [splice]; done) | (simp [splice]; omega)) | exact vplace (by simp; done) (by omega) | exact vrow (by simp; done) (by omega) | exact vtiles (by simp) | exact vsplice (by simp) (by simp) | refine ceq ?_ ?_ | refine Eq.trans (vsplice (by first | (simp; done) | (simp; omega)) (by first | (simp; done) | (simp; omega))) ?_)), ?_⟩
  conv => whnf
  repeat (first | (refine And.intro (by first | (with_reducible refine strLe1 ?_; omega) | exact rfl | decide | omega | (simp [splice]; done) | (constructor <;> omega) | (simp [splice]; omega)) ?_; conv => whnf) | (refine optK_of (wordA (by omega)) ?_; conv => whnf) | (refine optK_of (rowN (by omega)) ?_; conv => whnf))
  first | refine ⟨_, _, rfl, Sat.of_eq (toColours_sat f) (by repeat (first | rfl | exact vfull (by first | (simp [splice]; done) | (simp [splice]; omega)) | exact rfull (by first | (simp [splice]; done) | (simp [splice]; omega)) | exact vplace (by simp; done) (by omega) | exact vrow (by simp; done) (by omega) | exact vtiles (by simp) | exact vsplice (by simp) (by simp) | refine ceq ?_ ?_ | refine Eq.trans (vsplice (by first | (simp; done) | (simp; omega)) (by first | (simp; done) | (simp; omega))) ?_)), ?_⟩ | refine .inl ⟨_, _, rfl, Sat.of_eq (toColours_sat f) (by repeat (first | rfl | exact vfull (by first | (simp [splice]; done) | (simp [splice]; omega)) | exact rfull (by first | (simp [splice]; done) | (simp [splice]; omega)) | exact vplace (by simp; done) (by omega) | exact vrow (by simp; done) (by omega) | exact vtiles (by simp) | exact vsplice (by simp) (by simp) | refine ceq ?_ ?_ | refine Eq.trans (vsplice (by first | (simp; done) | (simp; omega)) (by first | (simp; done) | (simp; omega))) ?_)), ?_⟩
  conv => whnf
  repeat (first | (refine And.intro (by first | (with_reducible refine strLe1 ?_; omega) | exact rfl | decide | omega | (simp [splice]; done) | (constructor <;> omega) | (simp [splice]; omega)) ?_; conv => whnf) | (refine optK_of (wordA (by omega)) ?_; conv => whnf) | (refine optK_of (rowN (by omega)) ?_; conv => whnf))
  first | refine ⟨_, _, rfl, Sat.of_eq (s1) (by repeat (first | rfl | exact vfull (by first | (simp [splice]; done) | (simp [splice]; omega)) | exact rfull (by first | (simp [splice]; done) | (simp [splice]; omega)) | exact vplace (by simp; done) (by omega) | exact vrow (by simp; done) (by omega) | exact vtiles (by simp) | exact vsplice (by simp) (by simp) | refine ceq ?_ ?_ | refine Eq.trans (vsplice (by first | (simp; done) | (simp; omega)) (by first | (simp; done) | (simp; omega))) ?_)), ?_⟩ | refine .inl ⟨_, _, rfl, Sat.of_eq (s1) (by repeat (first | rfl | exact vfull (by first | (simp [splice]; done) | (simp [splice]; omega)) | exact rfull (by first | (simp [splice]; done) | (simp [splice]; omega)) | exact vplace (by simp; done) (by omega) | exact vrow (by simp; done) (by omega) | exact vtiles (by simp) | exact vsplice (by simp) (by simp) | refine ceq ?_ ?_ | refine Eq.trans (vsplice (by first | (simp; done) | (simp; omega)) (by first | (simp; done) | (simp; omega))) ?_)), ?_⟩
  conv => whnf
  repeat (first | (refine And.intro (by first | (with_reducible refine strLe1 ?_; omega) | exact rfl | decide | omega | (simp [splice]; done) | (constructor <;> omega) | (simp [splice]; omega)) ?_; conv => whnf) | (refine optK_of (wordA (by omega)) ?_; conv => whnf) | (refine optK_of (rowN (by omega)) ?_; conv => whnf))
  first | refine ⟨_, _, rfl, Sat.of_eq (toRoof_sat r) (by repeat (first | rfl | exact vfull (by first | (simp [splice]; done) | (simp [splice]; omega)) | exact rfull (by first | (simp [splice]; done) | (simp [splice]; omega)) | exact vplace (by simp; done) (by omega) | exact vrow (by simp; done) (by omega) | exact vtiles (by simp) | exact vsplice (by simp) (by simp) | refine ceq ?_ ?_ | refine Eq.trans (vsplice (by first | (simp; done) | (simp; omega)) (by first | (simp; done) | (simp; omega))) ?_)), ?_⟩ | refine .inl ⟨_, _, rfl, Sat.of_eq (toRoof_sat r) (by repeat (first | rfl | exact vfull (by first | (simp [splice]; done) | (simp [splice]; omega)) | exact rfull (by first | (simp [splice]; done) | (simp [splice]; omega)) | exact vplace (by simp; done) (by omega) | exact vrow (by simp; done) (by omega) | exact vtiles (by simp) | exact vsplice (by simp) (by simp) | refine ceq ?_ ?_ | refine Eq.trans (vsplice (by first | (simp; done) | (simp; omega)) (by first | (simp; done) | (simp; omega))) ?_)), ?_⟩
  conv => whnf
  repeat (first | (refine And.intro (by first | (with_reducible refine strLe1 ?_; omega) | exact rfl | decide | omega | (simp [splice]; done) | (constructor <;> omega) | (simp [splice]; omega)) ?_; conv => whnf) | (refine optK_of (wordA (by omega)) ?_; conv => whnf) | (refine optK_of (rowN (by omega)) ?_; conv => whnf))
  first | refine ⟨_, _, rfl, Sat.of_eq (toColours_sat f) (by repeat (first | rfl | exact vfull (by first | (simp [splice]; done) | (simp [splice]; omega)) | exact rfull (by first | (simp [splice]; done) | (simp [splice]; omega)) | exact vplace (by simp; done) (by omega) | exact vrow (by simp; done) (by omega) | exact vtiles (by simp) | exact vsplice (by simp) (by simp) | refine ceq ?_ ?_ | refine Eq.trans (vsplice (by first | (simp; done) | (simp; omega)) (by first | (simp; done) | (simp; omega))) ?_)), ?_⟩ | refine .inl ⟨_, _, rfl, Sat.of_eq (toColours_sat f) (by repeat (first | rfl | exact vfull (by first | (simp [splice]; done) | (simp [splice]; omega)) | exact rfull (by first | (simp [splice]; done) | (simp [splice]; omega)) | exact vplace (by simp; done) (by omega) | exact vrow (by simp; done) (by omega) | exact vtiles (by simp) | exact vsplice (by simp) (by simp) | refine ceq ?_ ?_ | refine Eq.trans (vsplice (by first | (simp; done) | (simp; omega)) (by first | (simp; done) | (simp; omega))) ?_)), ?_⟩
  conv => whnf
  repeat (first | (refine And.intro (by first | (with_reducible refine strLe1 ?_; omega) | exact rfl | decide | omega | (simp [splice]; done) | (constructor <;> omega) | (simp [splice]; omega)) ?_; conv => whnf) | (refine optK_of (wordA (by omega)) ?_; conv => whnf) | (refine optK_of (rowN (by omega)) ?_; conv => whnf))
  first | refine ⟨_, _, rfl, Sat.of_eq (s2) (by repeat (first | rfl | exact vfull (by first | (simp [splice]; done) | (simp [splice]; omega)) | exact rfull (by first | (simp [splice]; done) | (simp [splice]; omega)) | exact vplace (by simp; done) (by omega) | exact vrow (by simp; done) (by omega) | exact vtiles (by simp) | exact vsplice (by simp) (by simp) | refine ceq ?_ ?_ | refine Eq.trans (vsplice (by first | (simp; done) | (simp; omega)) (by first | (simp; done) | (simp; omega))) ?_)), ?_⟩ | refine .inl ⟨_, _, rfl, Sat.of_eq (s2) (by repeat (first | rfl | exact vfull (by first | (simp [splice]; done) | (simp [splice]; omega)) | exact rfull (by first | (simp [splice]; done) | (simp [splice]; omega)) | exact vplace (by simp; done) (by omega) | exact vrow (by simp; done) (by omega) | exact vtiles (by simp) | exact vsplice (by simp) (by simp) | refine ceq ?_ ?_ | refine Eq.trans (vsplice (by first | (simp; done) | (simp; omega)) (by first | (simp; done) | (simp; omega))) ?_)), ?_⟩
  conv => whnf
  repeat (first | (refine And.intro (by first | (with_reducible refine strLe1 ?_; omega) | exact rfl | decide | omega | (simp [splice]; done) | (constructor <;> omega) | (simp [splice]; omega)) ?_; conv => whnf) | (refine optK_of (wordA (by omega)) ?_; conv => whnf) | (refine optK_of (rowN (by omega)) ?_; conv => whnf))
  rw [show (!(b.toList == b.toList)) = false by simp]
  conv => whnf
  repeat (first | (refine And.intro (by first | (with_reducible refine strLe1 ?_; omega) | exact rfl | decide | omega | (simp [splice]; done) | (constructor <;> omega) | (simp [splice]; omega)) ?_; conv => whnf) | (refine optK_of (wordA (by omega)) ?_; conv => whnf) | (refine optK_of (rowN (by omega)) ?_; conv => whnf))
  rw [show (x != x) = false by simp]
  conv => whnf
  repeat (first | (refine And.intro (by first | (with_reducible refine strLe1 ?_; omega) | exact rfl | decide | omega | (simp [splice]; done) | (constructor <;> omega) | (simp [splice]; omega)) ?_; conv => whnf) | (refine optK_of (wordA (by omega)) ?_; conv => whnf) | (refine optK_of (rowN (by omega)) ?_; conv => whnf))
  rw [show (y != y) = false by simp]
  conv => whnf
  repeat (first | (refine And.intro (by first | (with_reducible refine strLe1 ?_; omega) | exact rfl | decide | omega | (simp [splice]; done) | (constructor <;> omega) | (simp [splice]; omega)) ?_; conv => whnf) | (refine optK_of (wordA (by omega)) ?_; conv => whnf) | (refine optK_of (rowN (by omega)) ?_; conv => whnf))
  first | refine ⟨rfl, _, rfl, ?_⟩ | refine ⟨_, rfl, ?_⟩
  rfl
end Go.Proofs.Ytlpgfemmbnkaiaa
