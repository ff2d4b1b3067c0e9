import Derived.Test.YtecjkbgepbefcaaP4
set_option linter.unusedVariables false
set_option linter.unusedSimpArgs false
/- Plain words: years: visits that are needed, each of them; what has to be replaced; tiles that are too old. -/
set_option linter.unusedVariables false
set_option linter.unusedSimpArgs false
namespace Go.V
theorem chk_erase {life years : Int} (hl : 1 ≤ life) : ∀ (f : Nat) (v last : Int) (k : Nat), k < (visL life years f v).length → chkL life years last (v - life) ((visL life years f v).eraseIdx k) = false
  | 0, v, last, k, h => by simp [visL] at h
  | f + 1, v, last, k, h => by
    by_cases hv : v < years
    · rw [visL_step hv] at h ⊢
      cases k with
      | zero =>
        rw [List.eraseIdx_cons_zero]
        cases f with
        | zero => simp only [visL, chkL]; simp; omega
        | succ f =>
          by_cases hv2 : v + life < years
          · rw [visL_step hv2]
            simp only [chkL]
            rw [if_pos (by omega)]
          · simp only [visL, if_neg hv2, chkL]; simp; omega
      | succ k =>
        rw [List.eraseIdx_cons_succ]
        simp only [chkL]
        split
        · rfl
        · have := chk_erase hl f (v + life) v k (by simpa using h)
          rw [show v + life - life = v by omega] at this
          exact this
    · simp [visL, hv] at h
theorem chk_late {life years : Int} (hl : 1 ≤ life) : ∀ (f : Nat) (v last : Int) (k : Nat), k < (visL life years f v).length → chkL life years last (v - life) ((visL life years f v).set k (ix (visL life years f v) k + 1)) = false
  | 0, v, last, k, h => by simp [visL] at h
  | f + 1, v, last, k, h => by
    by_cases hv : v < years
    · rw [visL_step hv] at h ⊢
      cases k with
      | zero =>
        rw [List.set_cons_zero]
        simp only [chkL]
        rw [if_pos]
        right; right
        show v + 1 - (v - life) > life
        omega
      | succ k =>
        rw [List.set_cons_succ]
        simp only [chkL]
        split
        · rfl
        · have := chk_late hl f (v + life) v k (by simpa using h)
          rw [show v + life - life = v by omega] at this
          exact this
    · simp [visL, hv] at h
theorem chk_due {life years : Int} (hl : 1 ≤ life) : ∀ (f : Nat) (v last : Int), last < v → years ≤ v + f → chkL life years last (v - life) (visL life years f v) = true
  | 0, v, last, h, hf => by simp only [visL, chkL]; simp; omega
  | f + 1, v, last, h, hf => by
    by_cases hv : v < years
    · rw [visL_step hv]
      simp only [chkL]
      rw [if_neg (by omega)]
      have := chk_due (years := years) hl f (v + life) v (by omega) (by omega)
      rw [show v + life - life = v by omega] at this
      exact this
    · simp only [visL, if_neg hv, chkL]; simp; omega
theorem visL_few {life years : Int} (hl : 1 ≤ life) : ∀ (f : Nat) (v : Int), (visL life years f v).length ≤ (years - v).toNat
  | 0, v => by simp [visL]
  | f + 1, v => by
    by_cases hv : v < years
    · rw [visL_step hv]
      have := visL_few (years := years) hl f (v + life)
      simp only [List.length_cons]
      omega
    · simp [visL, hv]
theorem visL_at {life years : Int} : ∀ (f : Nat) (v : Int) (i : Nat), i < (visL life years f v).length → ix (visL life years f v) i = v + i * life
  | 0, v, i, h => by simp [visL] at h
  | f + 1, v, i, h => by
    by_cases hv : v < years
    · rw [visL_step hv] at h ⊢
      cases i with
      | zero => simp [ix]
      | succ i =>
        have := visL_at f (v + life) i (by simpa using h)
        unfold ix at this ⊢
        rw [List.getD_cons_succ, this, Int.natCast_succ, Int.add_mul]
        omega
    · simp [visL, hv] at h
theorem bornS_all {life nx y : Int} {born : List Int} {o : Nat} (h : o < born.length) : ix (bornS life nx y born born.length) o = newB life nx y (ix born o) := by
  unfold bornS ix
  rw [List.take_length, List.drop_length, List.append_nil, List.getD_eq_getElem?_getD, List.getD_eq_getElem?_getD, List.getElem?_map]
  simp [h]
/-- At each visit some tile has to be replaced. -/
theorem out_some {life years v0 : Int} {f : Nat} {b0 : List Int} {o : Nat} (hl : 1 ≤ life) (ho : o < b0.length) (hb : ix b0 o = v0 - life) {i : Nat} (hi : i < (visL life years f v0).length) :
    nxAt years (visL life years f v0) i > v0 + i * life ∧ ix (bornI life years (visL life years f v0) b0 i) o = v0 + i * life - life := by
  have nx : ∀ j, j < (visL life years f v0).length → nxAt years (visL life years f v0) j > v0 + j * life := by
    intro j hj
    unfold nxAt
    split
    · rename_i h
      rw [visL_at f v0 (j + 1) h, Int.natCast_succ, Int.add_mul]; omega
    · have := visL_mem hl f v0 (ix (visL life years f v0) j) (ix_mem hj)
      rw [visL_at f v0 j hj] at this
      omega
  refine ⟨nx i hi, ?_⟩
  induction i with
  | zero => simp only [bornI, hb]; omega
  | succ i ih =>
    have h1 := ih (by omega)
    have h2 := nx i (by omega)
    have hlen := bornI_len life years (visL life years f v0) b0 i
    simp only [bornI]
    rw [← hlen, bornS_all (by rw [hlen]; exact ho), h1]
    unfold newB
    rw [if_pos (by omega), visL_at f v0 i (by omega), Int.natCast_succ, Int.add_mul]
    omega
theorem out_ix {life years : Int} {vs b0 : List Int} : ∀ {n i : Nat}, i < n → ix (outI life years vs b0 n) i = ((cntS life (nxAt years vs i) (bornI life years vs b0 i) b0.length : Nat) : Int)
  | 0, i, h => by omega
  | n + 1, i, h => by
    simp only [outI]
    unfold ix
    rw [List.getD_eq_getElem?_getD]
    by_cases hi : i < n
    · rw [List.getElem?_append_left (by simpa using hi)]
      have := out_ix (life := life) (years := years) (vs := vs) (b0 := b0) hi
      unfold ix at this
      rw [List.getD_eq_getElem?_getD] at this
      exact this
    · have : i = n := by omega
      subst this
      rw [List.getElem?_append_right (by simp)]
      simp
theorem cntS_pos {life nx : Int} {born : List Int} {o : Nat} (ho : o < born.length) (h : nx - ix born o > life) : 1 ≤ cntS life nx born born.length := by
  unfold cntS
  rw [List.take_length]
  show 0 < _
  rw [List.countP_pos_iff]
  exact ⟨ix born o, ix_mem ho, by simpa using h⟩
theorem rep_range {life years v0 : Int} {f : Nat} {b0 : List Int} {o : Nat} (hl : 1 ≤ life) (ho : o < b0.length) (hb : ix b0 o = v0 - life) {k : Nat} (hk : k < (visL life years f v0).length) :
    1 ≤ ix (outI life years (visL life years f v0) b0 (visL life years f v0).length) k ∧ ix (outI life years (visL life years f v0) b0 (visL life years f v0).length) k ≤ b0.length := by
  obtain ⟨h1, h2⟩ := out_some (f := f) (years := years) hl ho hb hk
  have hlen := bornI_len life years (visL life years f v0) b0 k
  rw [out_ix hk]
  have h3 := cntS_pos (life := life) (nx := nxAt years (visL life years f v0) k) (born := bornI life years (visL life years f v0) b0 k) (o := o) (by rw [hlen]; exact ho) (by rw [h2]; omega)
  have h4 := cntS_le (life := life) (nx := nxAt years (visL life years f v0) k) (born := bornI life years (visL life years f v0) b0 k) (k := b0.length)
  rw [hlen] at h3
  omega
/-- A roof on which some tiles are of a kind. -/
theorem brkAt_t (r : Roof) : ∀ (ps : List Pl) (n : Nat), n ≤ ps.length → ∀ c k, (brkAt r ps n).t c k = if (c, k) ∈ ps.take n then 3 else r.t c k
  | ps, 0, _, c, k => by rw [brkAt_zero]; simp
  | ps, n + 1, h, c, k => by
    have ih := brkAt_t r ps n (by omega) c k
    rw [brkAt_next r (by omega), take_next (by omega)]
    show (if c = (nthP ps n).1 ∧ k = (nthP ps n).2 then (3 : Int) else (brkAt r ps n).t c k) = _
    by_cases hq : c = (nthP ps n).1 ∧ k = (nthP ps n).2
    · rw [if_pos hq, if_pos]
      rw [List.mem_append]
      right
      rw [List.mem_singleton]
      exact Prod.ext hq.1 hq.2
    · rw [if_neg hq, ih]
      have : ¬ (c, k) = nthP ps n := fun e => hq ⟨by rw [← e], by rw [← e]⟩
      simp [this]
theorem grid_mem {w h : Nat} {q : Pl} : q ∈ gridP w h ↔ q.1 < h ∧ q.2 < w := by
  unfold gridP rowP
  simp only [List.mem_flatMap, List.mem_range, List.mem_map]
  constructor
  · rintro ⟨x, hx, j, hj, rfl⟩; exact ⟨hx, hj⟩
  · rintro ⟨h1, h2⟩; exact ⟨q.1, h1, q.2, h2, rfl⟩
theorem allP_mem {r : Roof} {p : Nat → Nat → Bool} {q : Pl} : q ∈ allP r p ↔ (q.1 < r.h.toNat ∧ q.2 < r.w.toNat) ∧ p q.1 q.2 = true := by
  rw [allP_eq, List.mem_filter, grid_mem]
theorem broken_t {r : Roof} {a : Nat → Nat → Int} {life years : Int} (hz : brkK r a life years = 0) {c k : Nat} (hc : c < r.h.toNat) (hk : k < r.w.toNat) :
    (brkR r a life years).t c k = if oldT a life years c k = true then 3 else r.t c k := by
  unfold brkR
  rw [if_pos hz, brkAt_t r _ _ (Nat.le_refl _), List.take_length]
  unfold oldL
  by_cases ho : oldT a life years c k = true
  · rw [if_pos ho, if_pos (allP_mem.2 ⟨⟨hc, hk⟩, ho⟩)]
  · rw [if_neg ho, if_neg (fun h => ho (allP_mem.1 h).2)]
/-- The oldest tile. -/
theorem oldP_mem2 {r : Roof} (hb : (1 ≤ r.w ∧ r.w ≤ 8) ∧ (1 ≤ r.h ∧ r.h ≤ 8) ∧ r.s ≤ 1) (a : Nat → Nat → Int) : oldP r a ∈ gridP r.w.toNat r.h.toNat := by
  have := gridP_size hb
  exact bestL_mem2 (by omega)
theorem oldP_ge {r : Roof} (hb : (1 ≤ r.w ∧ r.w ≤ 8) ∧ (1 ≤ r.h ∧ r.h ≤ 8) ∧ r.s ≤ 1) (a : Nat → Nat → Int) {q : Pl} (hq : q ∈ gridP r.w.toNat r.h.toNat) : a q.1 q.2 ≤ ageP a (oldP r a) := by
  obtain ⟨i, hi, rfl⟩ := List.getElem_of_mem hq
  have := bestL_max a (gridP r.w.toNat r.h.toNat) ((gridP r.w.toNat r.h.toNat).length - 1) i (by omega)
  have e : nthP (gridP r.w.toNat r.h.toNat) i = (gridP r.w.toNat r.h.toNat)[i] := by unfold nthP; rw [List.getD_eq_getElem?_getD]; simp [hi]
  rw [e] at this
  exact this
/-- The best one of a list is the first of the greatest. -/
theorem bestL_first (a : Nat → Nat → Int) (ps : List Pl) : ∀ n, n < ps.length → ∃ j, j ≤ n ∧ bestL a ps n = nthP ps j ∧ ∀ i, i < j → a (nthP ps i).1 (nthP ps i).2 < a (bestL a ps n).1 (bestL a ps n).2
  | 0, _ => ⟨0, Nat.le_refl _, rfl, fun i hi => by omega⟩
  | n + 1, h => by
    obtain ⟨j, h1, h2, h3⟩ := bestL_first a ps n (by omega)
    simp only [bestL]
    split
    · rename_i hgt
      refine ⟨n + 1, Nat.le_refl _, rfl, fun i hi => ?_⟩
      have := bestL_max a ps n i (by omega)
      omega
    · exact ⟨j, by omega, h2, h3⟩
theorem oldL_pos {r : Roof} (hb : (1 ≤ r.w ∧ r.w ≤ 8) ∧ (1 ≤ r.h ∧ r.h ≤ 8) ∧ r.s ≤ 1) {a : Nat → Nat → Int} (ha : AgesIn a) (life : Int) : 0 < (oldL r a life 0).length ↔ ageP a (oldP r a) > life := by
  have hw : ∀ c k, IntKind.i64.wrap (a c k + 0) = a c k := fun c k => by have := ha.t c k; rw [Int.add_zero]; exact w64 (by omega) (by omega)
  constructor
  · intro h
    obtain ⟨q, hq⟩ := List.exists_mem_of_length_pos h
    have := allP_mem.1 hq
    unfold oldT at this
    rw [hw] at this
    have h2 := oldP_ge hb a (grid_mem.2 this.1)
    have h3 : a q.1 q.2 > life := by simpa using this.2
    omega
  · intro h
    refine List.length_pos_of_mem (a := oldP r a) (allP_mem.2 ⟨grid_mem.1 (oldP_mem2 hb a), ?_⟩)
    unfold oldT
    rw [hw]
    simpa [ageP] using h
end Go.V
/- Contracts: a source of choices out of bytes; valid roofs, ages and rain that are drawn from it. -/
set_option linter.unusedVariables false
set_option linter.unusedSimpArgs false
namespace Go.V
/-- Bytes. -/
@[irreducible] def u8C (xs : List Int) : List Value := xs.map (Value.int .u8)
theorem u8C_def (xs : List Int) : u8C xs = xs.map (Value.int .u8) := by unfold u8C; rfl
@[simp] theorem u8C_len (xs : List Int) : (u8C xs).length = xs.length := by simp [u8C_def]
def u8D (m : Bool) (xs : List Int) : D := .row m 1 (.v (.agg ⟨u8C xs⟩)) xs.length
def Bytes (xs : List Int) : Prop := ∀ i, i < xs.length → 0 ≤ ix xs i ∧ ix xs i ≤ 255
theorem u8N {xs : List Int} {i o : Nat} (ho : o = i) (h : i < xs.length) : nth (u8C xs) o = some (.int .u8 (ix xs i)) := by
  subst ho
  rw [nth_eq, u8C_def, List.getElem?_map]
  unfold ix
  rw [List.getD_eq_getElem?_getD]
  simp [h]
theorem u8A {xs : List Int} {i : Nat} (h : i < xs.length) : nth (u8C xs) (0 + (i : Int).toNat * 1) = some (.int .u8 (ix xs i)) := u8N (by simp) h
theorem u8A' {xs : List Int} {i : Nat} (h : i < xs.length) : nth (u8C xs) ((i : Int).toNat * 1) = some (.int .u8 (ix xs i)) := u8N (by simp) h
/-- The state of a source: how many were read, a number. -/
abbrev Sc := Nat × Int
def srcD (xs : List Int) (σ : Sc) : D := .agg [u8D false xs, .v (.int .i64 σ.1), .v (.int .u64 σ.2)]
def nxB (xs : List Int) (σ : Sc) : Int := if σ.1 < xs.length then ix xs σ.1 else 0
def nxS (xs : List Int) (σ : Sc) : Int := IntKind.u64.wrap (IntKind.u64.wrap (IntKind.u64.wrap (σ.2 * 6364136223846793005) + IntKind.u64.wrap (nxB xs σ)) + 1442695040888963407)
def andU (x : Int) : Int := IntKind.u64.wrap (BitVec.ofInt IntKind.u64.bits (x.fdiv (2 ^ (min 40 IntKind.u64.bits))) &&& BitVec.ofInt IntKind.u64.bits 255).toNat
def nxV (xs : List Int) (σ : Sc) : Int := if σ.1 + 1 ≤ xs.length then nxB xs σ else IntKind.i64.wrap (andU (nxS xs σ))
def nxt (xs : List Int) (σ : Sc) : Sc := (σ.1 + 1, nxS xs σ)
theorem andU_in (x : Int) : 0 ≤ andU x ∧ andU x ≤ 255 := by
  unfold andU
  generalize BitVec.ofInt IntKind.u64.bits (x.fdiv (2 ^ (min 40 IntKind.u64.bits))) = b
  have h : (b &&& BitVec.ofInt IntKind.u64.bits 255).toNat ≤ 255 := by
    rw [BitVec.toNat_and]
    have : (BitVec.ofInt IntKind.u64.bits 255).toNat = 255 := by decide
    rw [this]
    exact Nat.and_le_right
  generalize (b &&& BitVec.ofInt IntKind.u64.bits 255).toNat = n at h
  rw [wu64 (by omega) (by omega)]
  omega
theorem nxV_in {xs : List Int} (h : Bytes xs) (σ : Sc) : 0 ≤ nxV xs σ ∧ nxV xs σ ≤ 255 := by
  unfold nxV nxB
  have h2 := andU_in (nxS xs σ)
  split
  · rename_i h1
    rw [if_pos (by omega)]
    exact h _ (by omega)
  · rw [w64 (by omega) (by omega)]; exact h2
/-- One choice among n. -/
def pkV (xs : List Int) (n : Int) (σ : Sc) : Int := if n ≤ 1 then 0 else (nxV xs σ).tmod n
def pkS (xs : List Int) (n : Int) (σ : Sc) : Sc := if n ≤ 1 then σ else nxt xs σ
theorem pkV_in {xs : List Int} (h : Bytes xs) {n : Int} (hn : 1 ≤ n) (σ : Sc) : 0 ≤ pkV xs n σ ∧ pkV xs n σ < n := by
  unfold pkV
  have := nxV_in h σ
  split
  · omega
  · have e : (nxV xs σ).tmod n = nxV xs σ % n := Int.tmod_eq_emod_of_nonneg this.1
    rw [e]
    exact ⟨Int.emod_nonneg _ (by omega), Int.emod_lt_of_pos _ (by omega)⟩
theorem pkS_le (xs : List Int) (n : Int) (σ : Sc) : (pkS xs n σ).1 ≤ σ.1 + 1 := by
  unfold pkS nxt; split
  · omega
  · exact Nat.le_refl _
end Go.V
namespace Go.Proofs.Ytecjkbgepbefcaa
open Go.V
theorem l00From_satM (xs : List Int) : SatM Try.prog 44 [u8D false xs] [] (.ptr (0, 0, 0) 0) [] [srcD xs (0, 0)] := by
  refine satM_of_wp hMix tOk Try.func44 rfl rfl Try.ntmps44 rfl rfl Try.results44 (by kernel_rfl) ?_
  conv => whnf
  repeat (first | (refine And.intro (by first | exact Nat.le_of_ble_eq_true rfl | exact rfl | decide | omega | (simp [splice]; done) | (constructor <;> omega) | (simp [splice]; omega)) ?_; conv => whnf) | (refine optK_of (u8A (by omega)) ?_; conv => whnf) | (refine optK_of (u8A' (by omega)) ?_; conv => whnf) | (refine optK_of (gridN (by omega) (by omega)) ?_; conv => whnf) | (refine optK_of (roofN (by omega) (by omega)) ?_; conv => whnf) | (refine optK_of (placeA (by omega)) ?_; conv => whnf) | (refine optK_of (placeB (by omega)) ?_; conv => whnf) | (refine optK_of (placeA' (by omega)) ?_; conv => whnf) | (refine optK_of (placeB' (by omega)) ?_; conv => whnf))
  refine ⟨[(5, 0, 0)], _, rfl, rfl, rfl, ?_, ?_, rfl⟩
  · rfl
  ((repeat' (first | exact trivial | apply And.intro)) <;> (refine ⟨_, rfl, ?_⟩; first | rfl | (rfl)))
theorem next_satM (xs : List Int) (hx : Bytes xs) (hl : xs.length ≤ 3000) (σ : Sc) (hσ : σ.1 ≤ 1000000) : SatM Try.prog 128 [.ptr (lentId 0) 0] [srcD xs σ] (.v (.int .i64 (nxV xs σ))) [some (srcD xs (nxt xs σ))] [] := by
  have e1 : IntKind.i64.wrap ((σ.1 : Int) + 1) = ((σ.1 + 1 : Nat) : Int) := by rw [w64 (by omega) (by omega)]; omega
  refine satM_of_wp hMix tOk Try.func128 rfl rfl Try.ntmps128 rfl rfl Try.results128 (by kernel_rfl) ?_
  conv => whnf
  repeat (first | (refine And.intro (by first | exact Nat.le_of_ble_eq_true rfl | exact rfl | decide | omega | (simp [splice]; done) | (constructor <;> omega) | (simp [splice]; omega)) ?_; conv => whnf) | (refine optK_of (u8A (by omega)) ?_; conv => whnf) | (refine optK_of (u8A' (by omega)) ?_; conv => whnf) | (refine optK_of (gridN (by omega) (by omega)) ?_; conv => whnf) | (refine optK_of (roofN (by omega) (by omega)) ?_; conv => whnf) | (refine optK_of (placeA (by omega)) ?_; conv => whnf) | (refine optK_of (placeB (by omega)) ?_; conv => whnf) | (refine optK_of (placeA' (by omega)) ?_; conv => whnf) | (refine optK_of (placeB' (by omega)) ?_; conv => whnf))
  cases h1 : decide ((σ.1 : Int) < (xs.length : Int))
  · have h1' : ¬ σ.1 < xs.length := by simpa using h1
    have hb : nxB xs σ = 0 := by unfold nxB; rw [if_neg h1']
    conv => whnf
    repeat (first | (refine And.intro (by first | exact Nat.le_of_ble_eq_true rfl | exact rfl | decide | omega | (simp [splice]; done) | (constructor <;> omega) | (simp [splice]; omega)) ?_; conv => whnf) | (refine optK_of (u8A (by omega)) ?_; conv => whnf) | (refine optK_of (u8A' (by omega)) ?_; conv => whnf) | (refine optK_of (gridN (by omega) (by omega)) ?_; conv => whnf) | (refine optK_of (roofN (by omega) (by omega)) ?_; conv => whnf) | (refine optK_of (placeA (by omega)) ?_; conv => whnf) | (refine optK_of (placeB (by omega)) ?_; conv => whnf) | (refine optK_of (placeA' (by omega)) ?_; conv => whnf) | (refine optK_of (placeB' (by omega)) ?_; conv => whnf))
    rw [e1]
    rw [show decide (((σ.1 + 1 : Nat) : Int) ≤ (xs.length : Int)) = false by simp; omega]
    conv => whnf
    repeat (first | (refine And.intro (by first | exact Nat.le_of_ble_eq_true rfl | exact rfl | decide | omega | (simp [splice]; done) | (constructor <;> omega) | (simp [splice]; omega)) ?_; conv => whnf) | (refine optK_of (u8A (by omega)) ?_; conv => whnf) | (refine optK_of (u8A' (by omega)) ?_; conv => whnf) | (refine optK_of (gridN (by omega) (by omega)) ?_; conv => whnf) | (refine optK_of (roofN (by omega) (by omega)) ?_; conv => whnf) | (refine optK_of (placeA (by omega)) ?_; conv => whnf) | (refine optK_of (placeB (by omega)) ?_; conv => whnf) | (refine optK_of (placeA' (by omega)) ?_; conv => whnf) | (refine optK_of (placeB' (by omega)) ?_; conv => whnf))
    have ev : nxV xs σ = IntKind.i64.wrap (andU (nxS xs σ)) := by unfold nxV; rw [if_neg (by omega)]
    have es : nxS xs σ = IntKind.u64.wrap (IntKind.u64.wrap (IntKind.u64.wrap (σ.2 * 6364136223846793005) + IntKind.u64.wrap 0) + 1442695040888963407) := by unfold nxS; rw [hb]
    rw [ev]
    unfold nxt
    rw [es]
    refine ⟨[], _, rfl, rfl, rfl, ?_, ?_, rfl⟩
    · rfl
    ((repeat' (first | exact trivial | apply And.intro)) <;> (refine ⟨_, rfl, ?_⟩; first | rfl | (rfl)))
  have h1' : σ.1 < xs.length := by simpa using h1
  have hb : nxB xs σ = ix xs σ.1 := by unfold nxB; rw [if_pos h1']
  have hbx := hx _ h1'
  conv => whnf
  repeat (first | (refine And.intro (by first | exact Nat.le_of_ble_eq_true rfl | exact rfl | decide | omega | (simp [splice]; done) | (constructor <;> omega) | (simp [splice]; omega)) ?_; conv => whnf) | (refine optK_of (u8A (by omega)) ?_; conv => whnf) | (refine optK_of (u8A' (by omega)) ?_; conv => whnf) | (refine optK_of (gridN (by omega) (by omega)) ?_; conv => whnf) | (refine optK_of (roofN (by omega) (by omega)) ?_; conv => whnf) | (refine optK_of (placeA (by omega)) ?_; conv => whnf) | (refine optK_of (placeB (by omega)) ?_; conv => whnf) | (refine optK_of (placeA' (by omega)) ?_; conv => whnf) | (refine optK_of (placeB' (by omega)) ?_; conv => whnf))
  rw [e1, show IntKind.i64.wrap (ix xs σ.1) = ix xs σ.1 from w64 (by omega) (by omega)]
  rw [show decide (((σ.1 + 1 : Nat) : Int) ≤ (xs.length : Int)) = true by simp; omega]
  conv => whnf
  repeat (first | (refine And.intro (by first | exact Nat.le_of_ble_eq_true rfl | exact rfl | decide | omega | (simp [splice]; done) | (constructor <;> omega) | (simp [splice]; omega)) ?_; conv => whnf) | (refine optK_of (u8A (by omega)) ?_; conv => whnf) | (refine optK_of (u8A' (by omega)) ?_; conv => whnf) | (refine optK_of (gridN (by omega) (by omega)) ?_; conv => whnf) | (refine optK_of (roofN (by omega) (by omega)) ?_; conv => whnf) | (refine optK_of (placeA (by omega)) ?_; conv => whnf) | (refine optK_of (placeB (by omega)) ?_; conv => whnf) | (refine optK_of (placeA' (by omega)) ?_; conv => whnf) | (refine optK_of (placeB' (by omega)) ?_; conv => whnf))
  have ev : nxV xs σ = ix xs σ.1 := by unfold nxV; rw [if_pos (by omega), hb]
  have es : nxS xs σ = IntKind.u64.wrap (IntKind.u64.wrap (IntKind.u64.wrap (σ.2 * 6364136223846793005) + IntKind.u64.wrap (ix xs σ.1)) + 1442695040888963407) := by unfold nxS; rw [hb]
  rw [ev]
  unfold nxt
  rw [es]
  refine ⟨[], _, rfl, rfl, rfl, ?_, ?_, rfl⟩
  · rfl
  ((repeat' (first | exact trivial | apply And.intro)) <;> (refine ⟨_, rfl, ?_⟩; first | rfl | (rfl)))
theorem pick_satM (xs : List Int) (hx : Bytes xs) (hl : xs.length ≤ 3000) (n : Int) (hn : n ≤ 200) (σ : Sc) (hσ : σ.1 ≤ 1000000) : SatM Try.prog 100 [.ptr (lentId 0) 0, .v (.int .i64 n)] [srcD xs σ] (.v (.int .i64 (pkV xs n σ))) [some (srcD xs (pkS xs n σ))] [] := by
  refine satM_of_wp hMix tOk Try.func100 rfl rfl Try.ntmps100 rfl rfl Try.results100 (by kernel_rfl) ?_
  conv => whnf
  repeat (first | (refine And.intro (by first | exact Nat.le_of_ble_eq_true rfl | exact rfl | decide | omega | (simp [splice]; done) | (constructor <;> omega) | (simp [splice]; omega)) ?_; conv => whnf) | (refine optK_of (u8A (by omega)) ?_; conv => whnf) | (refine optK_of (u8A' (by omega)) ?_; conv => whnf) | (refine optK_of (gridN (by omega) (by omega)) ?_; conv => whnf) | (refine optK_of (roofN (by omega) (by omega)) ?_; conv => whnf) | (refine optK_of (placeA (by omega)) ?_; conv => whnf) | (refine optK_of (placeB (by omega)) ?_; conv => whnf) | (refine optK_of (placeA' (by omega)) ?_; conv => whnf) | (refine optK_of (placeB' (by omega)) ?_; conv => whnf))
  cases h1 : decide (n ≤ 1)
  case true =>
    have h1' : n ≤ 1 := by simpa using h1
    rw [show pkV xs n σ = 0 by unfold pkV; rw [if_pos h1'], show pkS xs n σ = σ by unfold pkS; rw [if_pos h1']]
    conv => whnf
    repeat (first | (refine And.intro (by first | exact Nat.le_of_ble_eq_true rfl | exact rfl | decide | omega | (simp [splice]; done) | (constructor <;> omega) | (simp [splice]; omega)) ?_; conv => whnf) | (refine optK_of (u8A (by omega)) ?_; conv => whnf) | (refine optK_of (u8A' (by omega)) ?_; conv => whnf) | (refine optK_of (gridN (by omega) (by omega)) ?_; conv => whnf) | (refine optK_of (roofN (by omega) (by omega)) ?_; conv => whnf) | (refine optK_of (placeA (by omega)) ?_; conv => whnf) | (refine optK_of (placeB (by omega)) ?_; conv => whnf) | (refine optK_of (placeA' (by omega)) ?_; conv => whnf) | (refine optK_of (placeB' (by omega)) ?_; conv => whnf))
    refine ⟨[], _, rfl, rfl, rfl, ?_, ?_, rfl⟩
    · rfl
    ((repeat' (first | exact trivial | apply And.intro)) <;> (refine ⟨_, rfl, ?_⟩; first | rfl | (rfl)))
  have h1' : ¬ n ≤ 1 := by simpa using h1
  have hne : n ≠ 0 := by omega
  rw [show pkV xs n σ = (nxV xs σ).tmod n by unfold pkV; rw [if_neg h1'], show pkS xs n σ = nxt xs σ by unfold pkS; rw [if_neg h1']]
  conv => whnf
  repeat (first | (refine And.intro (by first | exact Nat.le_of_ble_eq_true rfl | exact rfl | decide | omega | (simp [splice]; done) | (constructor <;> omega) | (simp [splice]; omega)) ?_; conv => whnf) | (refine optK_of (u8A (by omega)) ?_; conv => whnf) | (refine optK_of (u8A' (by omega)) ?_; conv => whnf) | (refine optK_of (gridN (by omega) (by omega)) ?_; conv => whnf) | (refine optK_of (roofN (by omega) (by omega)) ?_; conv => whnf) | (refine optK_of (placeA (by omega)) ?_; conv => whnf) | (refine optK_of (placeB (by omega)) ?_; conv => whnf) | (refine optK_of (placeA' (by omega)) ?_; conv => whnf) | (refine optK_of (placeB' (by omega)) ?_; conv => whnf))
  first | refine ⟨[(lentId 0)], _, _, _, _, _, _, _, _, rfl, rfl, rfl, rfl, (SatM.of_eq (next_satM xs hx hl σ hσ) (by repeat (first | rfl | exact vfull (by first | (simp [splice]; done) | (simp [splice]; omega)) | exact rfull (by first | (simp [splice]; done) | (simp [splice]; omega)) | exact vplace (by simp; done) (by omega) | exact vsplice (by simp) (by simp) | refine ceq ?_ ?_ | refine Eq.trans (vsplice (by first | (simp; done) | (simp; omega)) (by first | (simp; done) | (simp; omega))) ?_)) (by repeat (first | rfl | exact vfull (by first | (simp [splice]; done) | (simp [splice]; omega)) | exact rfull (by first | (simp [splice]; done) | (simp [splice]; omega)) | exact vplace (by simp; done) (by omega) | exact vsplice (by simp) (by simp) | refine ceq ?_ ?_ | refine Eq.trans (vsplice (by first | (simp; done) | (simp; omega)) (by first | (simp; done) | (simp; omega))) ?_))), rfl, rfl, rfl, rfl, ?_⟩ | refine .inr ⟨[(lentId 0)], _, _, _, _, _, _, _, _, rfl, rfl, rfl, rfl, (SatM.of_eq (next_satM xs hx hl σ hσ) (by repeat (first | rfl | exact vfull (by first | (simp [splice]; done) | (simp [splice]; omega)) | exact rfull (by first | (simp [splice]; done) | (simp [splice]; omega)) | exact vplace (by simp; done) (by omega) | exact vsplice (by simp) (by simp) | refine ceq ?_ ?_ | refine Eq.trans (vsplice (by first | (simp; done) | (simp; omega)) (by first | (simp; done) | (simp; omega))) ?_)) (by repeat (first | rfl | exact vfull (by first | (simp [splice]; done) | (simp [splice]; omega)) | exact rfull (by first | (simp [splice]; done) | (simp [splice]; omega)) | exact vplace (by simp; done) (by omega) | exact vsplice (by simp) (by simp) | refine ceq ?_ ?_ | refine Eq.trans (vsplice (by first | (simp; done) | (simp; omega)) (by first | (simp; done) | (simp; omega))) ?_))), rfl, rfl, rfl, rfl, ?_⟩ | refine ⟨[(lentId 0)], _, _, _, _, _, rfl, rfl, rfl, rfl, (SatM.of_eq (next_satM xs hx hl σ hσ) (by repeat (first | rfl | exact vfull (by first | (simp [splice]; done) | (simp [splice]; omega)) | exact rfull (by first | (simp [splice]; done) | (simp [splice]; omega)) | exact vplace (by simp; done) (by omega) | exact vsplice (by simp) (by simp) | refine ceq ?_ ?_ | refine Eq.trans (vsplice (by first | (simp; done) | (simp; omega)) (by first | (simp; done) | (simp; omega))) ?_)) (by repeat (first | rfl | exact vfull (by first | (simp [splice]; done) | (simp [splice]; omega)) | exact rfull (by first | (simp [splice]; done) | (simp [splice]; omega)) | exact vplace (by simp; done) (by omega) | exact vsplice (by simp) (by simp) | refine ceq ?_ ?_ | refine Eq.trans (vsplice (by first | (simp; done) | (simp; omega)) (by first | (simp; done) | (simp; omega))) ?_))), rfl, rfl, ?_⟩
  conv => whnf
  repeat (first | (refine And.intro (by first | exact Nat.le_of_ble_eq_true rfl | exact rfl | decide | omega | (simp [splice]; done) | (constructor <;> omega) | (simp [splice]; omega)) ?_; conv => whnf) | (refine optK_of (u8A (by omega)) ?_; conv => whnf) | (refine optK_of (u8A' (by omega)) ?_; conv => whnf) | (refine optK_of (gridN (by omega) (by omega)) ?_; conv => whnf) | (refine optK_of (roofN (by omega) (by omega)) ?_; conv => whnf) | (refine optK_of (placeA (by omega)) ?_; conv => whnf) | (refine optK_of (placeB (by omega)) ?_; conv => whnf) | (refine optK_of (placeA' (by omega)) ?_; conv => whnf) | (refine optK_of (placeB' (by omega)) ?_; conv => whnf))
  rw [show decide (n > 200) = false by simp; omega]
  conv => whnf
  repeat (first | (refine And.intro (by first | exact Nat.le_of_ble_eq_true rfl | exact rfl | decide | omega | (simp [splice]; done) | (constructor <;> omega) | (simp [splice]; omega)) ?_; conv => whnf) | (refine optK_of (u8A (by omega)) ?_; conv => whnf) | (refine optK_of (u8A' (by omega)) ?_; conv => whnf) | (refine optK_of (gridN (by omega) (by omega)) ?_; conv => whnf) | (refine optK_of (roofN (by omega) (by omega)) ?_; conv => whnf) | (refine optK_of (placeA (by omega)) ?_; conv => whnf) | (refine optK_of (placeB (by omega)) ?_; conv => whnf) | (refine optK_of (placeA' (by omega)) ?_; conv => whnf) | (refine optK_of (placeB' (by omega)) ?_; conv => whnf))
  refine ⟨[], _, rfl, rfl, rfl, ?_, ?_, rfl⟩
  · rfl
  ((repeat' (first | exact trivial | apply And.intro)) <;> (refine ⟨_, rfl, ?_⟩; first | rfl | (rfl)))
theorem one_satM (xs : List Int) (hx : Bytes xs) (hl : xs.length ≤ 3000) (n : Int) (hn : n ≤ 200) (σ : Sc) (hσ : σ.1 ≤ 1000000) : SatM Try.prog 101 [.ptr (lentId 0) 0, .v (.int .i64 n)] [srcD xs σ] (.v (.bool (pkV xs n σ == 0))) [some (srcD xs (pkS xs n σ))] [] := by
  refine satM_of_wp hMix tOk Try.func101 rfl rfl Try.ntmps101 rfl rfl Try.results101 (by kernel_rfl) ?_
  conv => whnf
  repeat (first | (refine And.intro (by first | exact Nat.le_of_ble_eq_true rfl | exact rfl | decide | omega | (simp [splice]; done) | (constructor <;> omega) | (simp [splice]; omega)) ?_; conv => whnf) | (refine optK_of (u8A (by omega)) ?_; conv => whnf) | (refine optK_of (u8A' (by omega)) ?_; conv => whnf) | (refine optK_of (gridN (by omega) (by omega)) ?_; conv => whnf) | (refine optK_of (roofN (by omega) (by omega)) ?_; conv => whnf) | (refine optK_of (placeA (by omega)) ?_; conv => whnf) | (refine optK_of (placeB (by omega)) ?_; conv => whnf) | (refine optK_of (placeA' (by omega)) ?_; conv => whnf) | (refine optK_of (placeB' (by omega)) ?_; conv => whnf))
  first | refine ⟨[(lentId 0)], _, _, _, _, _, _, _, _, rfl, rfl, rfl, rfl, (SatM.of_eq (pick_satM xs hx hl n hn σ hσ) (by repeat (first | rfl | exact vfull (by first | (simp [splice]; done) | (simp [splice]; omega)) | exact rfull (by first | (simp [splice]; done) | (simp [splice]; omega)) | exact vplace (by simp; done) (by omega) | exact vsplice (by simp) (by simp) | refine ceq ?_ ?_ | refine Eq.trans (vsplice (by first | (simp; done) | (simp; omega)) (by first | (simp; done) | (simp; omega))) ?_)) (by repeat (first | rfl | exact vfull (by first | (simp [splice]; done) | (simp [splice]; omega)) | exact rfull (by first | (simp [splice]; done) | (simp [splice]; omega)) | exact vplace (by simp; done) (by omega) | exact vsplice (by simp) (by simp) | refine ceq ?_ ?_ | refine Eq.trans (vsplice (by first | (simp; done) | (simp; omega)) (by first | (simp; done) | (simp; omega))) ?_))), rfl, rfl, rfl, rfl, ?_⟩ | refine .inr ⟨[(lentId 0)], _, _, _, _, _, _, _, _, rfl, rfl, rfl, rfl, (SatM.of_eq (pick_satM xs hx hl n hn σ hσ) (by repeat (first | rfl | exact vfull (by first | (simp [splice]; done) | (simp [splice]; omega)) | exact rfull (by first | (simp [splice]; done) | (simp [splice]; omega)) | exact vplace (by simp; done) (by omega) | exact vsplice (by simp) (by simp) | refine ceq ?_ ?_ | refine Eq.trans (vsplice (by first | (simp; done) | (simp; omega)) (by first | (simp; done) | (simp; omega))) ?_)) (by repeat (first | rfl | exact vfull (by first | (simp [splice]; done) | (simp [splice]; omega)) | exact rfull (by first | (simp [splice]; done) | (simp [splice]; omega)) | exact vplace (by simp; done) (by omega) | exact vsplice (by simp) (by simp) | refine ceq ?_ ?_ | refine Eq.trans (vsplice (by first | (simp; done) | (simp; omega)) (by first | (simp; done) | (simp; omega))) ?_))), rfl, rfl, rfl, rfl, ?_⟩ | refine ⟨[(lentId 0)], _, _, _, _, _, rfl, rfl, rfl, rfl, (SatM.of_eq (pick_satM xs hx hl n hn σ hσ) (by repeat (first | rfl | exact vfull (by first | (simp [splice]; done) | (simp [splice]; omega)) | exact rfull (by first | (simp [splice]; done) | (simp [splice]; omega)) | exact vplace (by simp; done) (by omega) | exact vsplice (by simp) (by simp) | refine ceq ?_ ?_ | refine Eq.trans (vsplice (by first | (simp; done) | (simp; omega)) (by first | (simp; done) | (simp; omega))) ?_)) (by repeat (first | rfl | exact vfull (by first | (simp [splice]; done) | (simp [splice]; omega)) | exact rfull (by first | (simp [splice]; done) | (simp [splice]; omega)) | exact vplace (by simp; done) (by omega) | exact vsplice (by simp) (by simp) | refine ceq ?_ ?_ | refine Eq.trans (vsplice (by first | (simp; done) | (simp; omega)) (by first | (simp; done) | (simp; omega))) ?_))), rfl, rfl, ?_⟩
  conv => whnf
  repeat (first | (refine And.intro (by first | exact Nat.le_of_ble_eq_true rfl | exact rfl | decide | omega | (simp [splice]; done) | (constructor <;> omega) | (simp [splice]; omega)) ?_; conv => whnf) | (refine optK_of (u8A (by omega)) ?_; conv => whnf) | (refine optK_of (u8A' (by omega)) ?_; conv => whnf) | (refine optK_of (gridN (by omega) (by omega)) ?_; conv => whnf) | (refine optK_of (roofN (by omega) (by omega)) ?_; conv => whnf) | (refine optK_of (placeA (by omega)) ?_; conv => whnf) | (refine optK_of (placeB (by omega)) ?_; conv => whnf) | (refine optK_of (placeA' (by omega)) ?_; conv => whnf) | (refine optK_of (placeB' (by omega)) ?_; conv => whnf))
  refine ⟨[], _, rfl, rfl, rfl, ?_, ?_, rfl⟩
  · rfl
  ((repeat' (first | exact trivial | apply And.intro)) <;> (refine ⟨_, rfl, ?_⟩; first | rfl | (rfl)))
end Go.Proofs.Ytecjkbgepbefcaa
/- Contracts: valid roofs, ages and rain that are drawn from bytes. -/
set_option linter.unusedVariables false
set_option linter.unusedSimpArgs false
namespace Go.V
theorem vrefsplice {xs ys : List Value} (h : xs.length = ys.length) : D.ref false (.v (.agg ⟨splice xs 0 ys⟩)) 0 = .ref false (.v (.agg ⟨ys⟩)) 0 := by rw [splice_all h]
theorem vroof0 {w h s : Int} {zs : List Value} (hz : zs.length = 67) : D.ref false (.v (.agg ⟨splice zs 0 (.int .i8 w :: .int .i8 h :: .int .u8 s :: List.replicate 64 (.int .u8 0))⟩)) 0 = .ref false (roofD ⟨w, h, s, fun _ _ => 0⟩) 0 := by
  rw [splice_all (by simpa using hz)]
  unfold roofD roofC
  rw [grid_zero]
theorem vroof0S {w h s : Int} {zs : List Value} (hz : zs.length = 67) : some (D.v (.agg ⟨splice zs 0 (.int .i8 w :: .int .i8 h :: .int .u8 s :: List.replicate 64 (.int .u8 0))⟩)) = some (roofD ⟨w, h, s, fun _ _ => 0⟩) := by
  rw [splice_all (by simpa using hz)]
  unfold roofD roofC
  rw [grid_zero]
theorem vgrid0S {zs : List Value} (hz : zs.length = 64) : some (D.v (.agg ⟨splice zs 0 (List.replicate 64 (.int .u8 0))⟩)) = some (gridD fun _ _ => 0) := by
  rw [splice_all (by simpa using hz)]
  unfold gridD
  rw [grid_zero]
def s0 : Sc := (0, 0)
def dr0 (xs : List Int) : Sc × Int := (pkS xs 5 s0, pkV xs 5 s0)
def dr1 (xs : List Int) : Sc × Int := (pkS xs 5 (dr0 xs).1, pkV xs 5 (dr0 xs).1)
def dr2 (xs : List Int) : Sc × Int := (pkS xs 2 (dr1 xs).1, pkV xs 2 (dr1 xs).1)
def dr3 (xs : List Int) : Sc × Int := (pkS xs 5 (dr2 xs).1, pkV xs 5 (dr2 xs).1)
def drR0 (xs : List Int) : Roof := ⟨1 + (dr0 xs).2, 1 + (dr1 xs).2, (dr2 xs).2, fun _ _ => 0⟩
def drFew (xs : List Int) : Int := 2 + (dr3 xs).2
def drG (xs : List Int) : List Pl := gridP (drR0 xs).w.toNat (drR0 xs).h.toNat
def dwQ (xs : List Int) (ps : List Pl) (few : Int) (r : Roof) (σ : Sc) : Nat → Roof × Sc
  | 0 => (r, σ)
  | i + 1 =>
    if pkV xs few (dwQ xs ps few r σ i).2 = 0 then
      (putR (dwQ xs ps few r σ i).1 (nthP ps i).1 (nthP ps i).2 (pkV xs 4 (pkS xs few (dwQ xs ps few r σ i).2)), pkS xs 4 (pkS xs few (dwQ xs ps few r σ i).2))
    else ((dwQ xs ps few r σ i).1, pkS xs few (dwQ xs ps few r σ i).2)
theorem dwQ_no {xs : List Int} {ps : List Pl} {few : Int} {r : Roof} {σ : Sc} {i : Nat} (h : ¬ pkV xs few (dwQ xs ps few r σ i).2 = 0) : dwQ xs ps few r σ (i + 1) = ((dwQ xs ps few r σ i).1, pkS xs few (dwQ xs ps few r σ i).2) := by simp only [dwQ, if_neg h]
theorem dwQ_yes {xs : List Int} {ps : List Pl} {few : Int} {r : Roof} {σ : Sc} {i : Nat} (h : pkV xs few (dwQ xs ps few r σ i).2 = 0) : dwQ xs ps few r σ (i + 1) = (putR (dwQ xs ps few r σ i).1 (nthP ps i).1 (nthP ps i).2 (pkV xs 4 (pkS xs few (dwQ xs ps few r σ i).2)), pkS xs 4 (pkS xs few (dwQ xs ps few r σ i).2)) := by simp only [dwQ, if_pos h]
/-- The roof that is drawn. -/
def dwR (xs : List Int) : Roof × Sc := dwQ xs (drG xs) (drFew xs) (drR0 xs) (dr3 xs).1 (drG xs).length
theorem drP_in {xs : List Int} (h : Bytes xs) : (0 ≤ (dr0 xs).2 ∧ (dr0 xs).2 < 5) ∧ (0 ≤ (dr1 xs).2 ∧ (dr1 xs).2 < 5) ∧ (0 ≤ (dr2 xs).2 ∧ (dr2 xs).2 < 2) ∧ (0 ≤ (dr3 xs).2 ∧ (dr3 xs).2 < 5) :=
  ⟨pkV_in h (n := 5) (by omega) s0, pkV_in h (n := 5) (by omega) (dr0 xs).1, pkV_in h (n := 2) (by omega) (dr1 xs).1, pkV_in h (n := 5) (by omega) (dr2 xs).1⟩
theorem drP_at (xs : List Int) : (dr0 xs).1.1 ≤ 1 ∧ (dr1 xs).1.1 ≤ 2 ∧ (dr2 xs).1.1 ≤ 3 ∧ (dr3 xs).1.1 ≤ 4 := by
  have h0 : (dr0 xs).1.1 ≤ s0.1 + 1 := pkS_le _ _ _
  have h1 : (dr1 xs).1.1 ≤ (dr0 xs).1.1 + 1 := pkS_le _ _ _
  have h2 : (dr2 xs).1.1 ≤ (dr1 xs).1.1 + 1 := pkS_le _ _ _
  have h3 : (dr3 xs).1.1 ≤ (dr2 xs).1.1 + 1 := pkS_le _ _ _
  have : s0.1 = 0 := rfl
  omega
theorem dwQ_at (xs : List Int) (ps : List Pl) (few : Int) (r : Roof) (σ : Sc) : ∀ i, (dwQ xs ps few r σ i).2.1 ≤ σ.1 + 2 * i
  | 0 => by simp [dwQ]
  | i + 1 => by
    have ih := dwQ_at xs ps few r σ i
    have h1 := pkS_le xs few (dwQ xs ps few r σ i).2
    have h2 := pkS_le xs 4 (pkS xs few (dwQ xs ps few r σ i).2)
    simp only [dwQ]
    split <;> dsimp only <;> omega
theorem cell_put {r : Roof} (h : okR r = true) {c k : Nat} (hc : (c : Int) < r.h) (hk : (k : Int) < r.w) {x : Int} (hx : 0 ≤ x ∧ x ≤ 3) : okR (putR r c k x) = true := by
  rw [okR_def] at h ⊢
  rw [Bool.and_eq_true] at h ⊢
  refine ⟨h.1, all8_true fun c' hc' k' hk' => ?_⟩
  have := all8_iff.1 h.2 c' hc' k' hk'
  unfold cellOk putR putG at *
  dsimp only
  by_cases hq : c' = c ∧ k' = k
  · obtain ⟨rfl, rfl⟩ := hq
    simp only [and_self, if_true]
    simp; omega
  · simp only [hq, if_false]; exact this
theorem dwQ_dims (xs : List Int) (ps : List Pl) (few : Int) (r : Roof) (σ : Sc) : ∀ i, (dwQ xs ps few r σ i).1.w = r.w ∧ (dwQ xs ps few r σ i).1.h = r.h ∧ (dwQ xs ps few r σ i).1.s = r.s
  | 0 => ⟨rfl, rfl, rfl⟩
  | i + 1 => by
    have ih := dwQ_dims xs ps few r σ i
    simp only [dwQ]
    split
    · exact ih
    · exact ih
theorem dwQ_ok {xs : List Int} (h : Bytes xs) {few : Int} {r : Roof} {σ : Sc} (hr : okR r = true) (hi : r.In) : ∀ i, i ≤ (gridP r.w.toNat r.h.toNat).length → okR (dwQ xs (gridP r.w.toNat r.h.toNat) few r σ i).1 = true ∧ (dwQ xs (gridP r.w.toNat r.h.toNat) few r σ i).1.In
  | 0, _ => ⟨hr, hi⟩
  | i + 1, hl => by
    obtain ⟨h1, h2⟩ := dwQ_ok h hr hi (few := few) (σ := σ) i (by omega)
    obtain ⟨d1, d2, d3⟩ := dwQ_dims xs (gridP r.w.toNat r.h.toNat) few r σ i
    have hp := pkV_in h (n := 4) (by omega) (pkS xs few (dwQ xs (gridP r.w.toNat r.h.toNat) few r σ i).2)
    have hm := grid_mem.1 (nthP_mem (show i < (gridP r.w.toNat r.h.toNat).length by omega))
    simp only [dwQ]
    split
    · exact ⟨cell_put h1 (by rw [d2]; omega) (by rw [d1]; omega) (by omega), putR_in h2 (by omega)⟩
    · exact ⟨h1, h2⟩
theorem drR0_ok {xs : List Int} (h : Bytes xs) : okR (drR0 xs) = true ∧ (drR0 xs).In := by
  obtain ⟨h0, h1, h2, _⟩ := drP_in h
  constructor
  · rw [okR_def, Bool.and_eq_true]
    refine ⟨?_, all8_true fun c _ k _ => ?_⟩
    · unfold drR0; simp; omega
    · unfold cellOk drR0; simp
  · exact ⟨by unfold drR0; dsimp only; omega, by unfold drR0; dsimp only; omega, by unfold drR0; dsimp only; omega, fun _ _ => by unfold drR0; dsimp only; omega⟩
theorem dwR_ok {xs : List Int} (h : Bytes xs) : okR (dwR xs).1 = true ∧ (dwR xs).1.In := by
  obtain ⟨h1, h2⟩ := drR0_ok h
  exact dwQ_ok h h1 h2 _ (Nat.le_refl _)
/-- Ages that are drawn. -/
def agQ (xs : List Int) (ps : List Pl) (most : Int) (σ : Sc) : Nat → (Nat → Nat → Int) × Sc
  | 0 => (fun _ _ => 0, σ)
  | i + 1 => (putG (agQ xs ps most σ i).1 (nthP ps i).1 (nthP ps i).2 (pkV xs most (agQ xs ps most σ i).2), pkS xs most (agQ xs ps most σ i).2)
def agMost (xs : List Int) : Int := 1 + pkV xs 30 s0
def agR (xs : List Int) (r : Roof) : (Nat → Nat → Int) × Sc := agQ xs (gridP r.w.toNat r.h.toNat) (agMost xs) (pkS xs 30 s0) (gridP r.w.toNat r.h.toNat).length
theorem agQ_at (xs : List Int) (ps : List Pl) (most : Int) (σ : Sc) : ∀ i, (agQ xs ps most σ i).2.1 ≤ σ.1 + i
  | 0 => by simp [agQ]
  | i + 1 => by
    have ih := agQ_at xs ps most σ i
    have h1 := pkS_le xs most (agQ xs ps most σ i).2
    simp only [agQ]; omega
theorem agQ_in {xs : List Int} (h : Bytes xs) {ps : List Pl} {most : Int} (hm : 1 ≤ most ∧ most ≤ 30) {σ : Sc} : ∀ i, ∀ c k, 0 ≤ (agQ xs ps most σ i).1 c k ∧ (agQ xs ps most σ i).1 c k ≤ 29
  | 0, c, k => by simp [agQ]
  | i + 1, c, k => by
    have ih := agQ_in h hm (ps := ps) (σ := σ) i c k
    have hp := pkV_in h (n := most) (by omega) (agQ xs ps most σ i).2
    simp only [agQ, putG]
    split
    · omega
    · exact ih
theorem agQ_out {xs : List Int} {r : Roof} {most : Int} {σ : Sc} : ∀ i, i ≤ (gridP r.w.toNat r.h.toNat).length → ∀ c k : Nat, ¬ ((c : Int) < r.h ∧ (k : Int) < r.w) → (agQ xs (gridP r.w.toNat r.h.toNat) most σ i).1 c k = 0
  | 0, _, c, k, _ => rfl
  | i + 1, hl, c, k, hn => by
    have hm := grid_mem.1 (nthP_mem (show i < (gridP r.w.toNat r.h.toNat).length by omega))
    simp only [agQ, putG]
    rw [if_neg (by rintro ⟨rfl, rfl⟩; exact hn ⟨by omega, by omega⟩)]
    exact agQ_out i (by omega) c k hn
theorem agR_ok {xs : List Int} (h : Bytes xs) {r : Roof} (hr : okR r = true) : okA r (agR xs r).1 = true ∧ AgesIn (agR xs r).1 := by
  have hp := pkV_in h (n := 30) (by omega) s0
  have hm : 1 ≤ agMost xs ∧ agMost xs ≤ 30 := by unfold agMost; omega
  have hin := agQ_in h hm (ps := gridP r.w.toNat r.h.toNat) (σ := pkS xs 30 s0) (gridP r.w.toNat r.h.toNat).length
  refine ⟨?_, ⟨fun c k => by have := hin c k; unfold agR; omega⟩⟩
  unfold okA
  rw [hr, Bool.true_and]
  refine all8_true fun c hc k hk => ?_
  have h1 := hin c k
  unfold ageOk inR
  rw [Bool.and_eq_true, Bool.or_eq_true]
  refine ⟨by unfold agR; simp; omega, ?_⟩
  by_cases hq : (c : Int) < r.h ∧ (k : Int) < r.w
  · left; simp [hq]
  · right
    unfold agR
    rw [agQ_out _ (Nat.le_refl _) c k hq]; rfl
end Go.V
namespace Go.Proofs.Ytecjkbgepbefcaa
open Go.V
theorem l01Drawn_satM (xs : List Int) (hx : Bytes xs) (hl : xs.length ≤ 3000) : SatM Try.prog 43 [.ptr (lentId 0) 0] [srcD xs s0] (roofD (dwR xs).1) [some (srcD xs (dwR xs).2)] [] := by
  obtain ⟨p0, p1, p2, p3⟩ := drP_in hx
  obtain ⟨q0, q1, q2, q3⟩ := drP_at xs
  obtain ⟨hok0, hin0⟩ := drR0_ok hx
  have hb0 := okR_bounds hok0
  refine satM_of_wp hMix tOk Try.func43 rfl rfl Try.ntmps43 rfl rfl Try.results43 (by kernel_rfl) ?_
  conv => whnf
  repeat (first | (refine And.intro (by first | exact Nat.le_of_ble_eq_true rfl | exact trivial | exact rfl | decide | omega | (simp [splice]; done) | (constructor <;> omega) | (simp [splice]; omega)) ?_; conv => whnf) | (refine optK_of (gridN (by omega) (by omega)) ?_; conv => whnf) | (refine optK_of (roofN (by omega) (by omega)) ?_; conv => whnf) | (refine optK_of (placeA (by omega)) ?_; conv => whnf) | (refine optK_of (placeB (by omega)) ?_; conv => whnf) | (refine optK_of (placeA' (by omega)) ?_; conv => whnf) | (refine optK_of (placeB' (by omega)) ?_; conv => whnf))
  first | refine ⟨[(lentId 0)], _, _, _, _, _, _, _, _, rfl, rfl, rfl, rfl, (SatM.of_eq (pick_satM xs hx hl 5 (by omega) s0 (by show 0 ≤ 1000000; omega)) (by repeat (first | rfl | exact vfull (by first | (simp [splice]; done) | (simp [splice]; omega)) | exact rfull (by first | (simp [splice]; done) | (simp [splice]; omega)) | exact vroof0 (by simp) | exact vrefsplice (by simp) | exact vplace (by simp; done) (by omega) | exact vsplice (by simp) (by simp) | refine ceq ?_ ?_ | refine Eq.trans (vsplice (by first | (simp; done) | (simp; omega)) (by first | (simp; done) | (simp; omega))) ?_)) (by repeat (first | rfl | exact vfull (by first | (simp [splice]; done) | (simp [splice]; omega)) | exact rfull (by first | (simp [splice]; done) | (simp [splice]; omega)) | exact vroof0 (by simp) | exact vrefsplice (by simp) | exact vplace (by simp; done) (by omega) | exact vsplice (by simp) (by simp) | refine ceq ?_ ?_ | refine Eq.trans (vsplice (by first | (simp; done) | (simp; omega)) (by first | (simp; done) | (simp; omega))) ?_))), rfl, rfl, rfl, rfl, ?_⟩ | refine .inr ⟨[(lentId 0)], _, _, _, _, _, _, _, _, rfl, rfl, rfl, rfl, (SatM.of_eq (pick_satM xs hx hl 5 (by omega) s0 (by show 0 ≤ 1000000; omega)) (by repeat (first | rfl | exact vfull (by first | (simp [splice]; done) | (simp [splice]; omega)) | exact rfull (by first | (simp [splice]; done) | (simp [splice]; omega)) | exact vroof0 (by simp) | exact vrefsplice (by simp) | exact vplace (by simp; done) (by omega) | exact vsplice (by simp) (by simp) | refine ceq ?_ ?_ | refine Eq.trans (vsplice (by first | (simp; done) | (simp; omega)) (by first | (simp; done) | (simp; omega))) ?_)) (by repeat (first | rfl | exact vfull (by first | (simp [splice]; done) | (simp [splice]; omega)) | exact rfull (by first | (simp [splice]; done) | (simp [splice]; omega)) | exact vroof0 (by simp) | exact vrefsplice (by simp) | exact vplace (by simp; done) (by omega) | exact vsplice (by simp) (by simp) | refine ceq ?_ ?_ | refine Eq.trans (vsplice (by first | (simp; done) | (simp; omega)) (by first | (simp; done) | (simp; omega))) ?_))), rfl, rfl, rfl, rfl, ?_⟩ | refine ⟨[(lentId 0)], _, _, _, _, _, rfl, rfl, rfl, rfl, (SatM.of_eq (pick_satM xs hx hl 5 (by omega) s0 (by show 0 ≤ 1000000; omega)) (by repeat (first | rfl | exact vfull (by first | (simp [splice]; done) | (simp [splice]; omega)) | exact rfull (by first | (simp [splice]; done) | (simp [splice]; omega)) | exact vroof0 (by simp) | exact vrefsplice (by simp) | exact vplace (by simp; done) (by omega) | exact vsplice (by simp) (by simp) | refine ceq ?_ ?_ | refine Eq.trans (vsplice (by first | (simp; done) | (simp; omega)) (by first | (simp; done) | (simp; omega))) ?_)) (by repeat (first | rfl | exact vfull (by first | (simp [splice]; done) | (simp [splice]; omega)) | exact rfull (by first | (simp [splice]; done) | (simp [splice]; omega)) | exact vroof0 (by simp) | exact vrefsplice (by simp) | exact vplace (by simp; done) (by omega) | exact vsplice (by simp) (by simp) | refine ceq ?_ ?_ | refine Eq.trans (vsplice (by first | (simp; done) | (simp; omega)) (by first | (simp; done) | (simp; omega))) ?_))), rfl, rfl, ?_⟩
  conv => whnf
  repeat (first | (refine And.intro (by first | exact Nat.le_of_ble_eq_true rfl | exact trivial | exact rfl | decide | omega | (simp [splice]; done) | (constructor <;> omega) | (simp [splice]; omega)) ?_; conv => whnf) | (refine optK_of (gridN (by omega) (by omega)) ?_; conv => whnf) | (refine optK_of (roofN (by omega) (by omega)) ?_; conv => whnf) | (refine optK_of (placeA (by omega)) ?_; conv => whnf) | (refine optK_of (placeB (by omega)) ?_; conv => whnf) | (refine optK_of (placeA' (by omega)) ?_; conv => whnf) | (refine optK_of (placeB' (by omega)) ?_; conv => whnf))
  first | refine ⟨[(lentId 0)], _, _, _, _, _, _, _, _, rfl, rfl, rfl, rfl, (SatM.of_eq (pick_satM xs hx hl 5 (by omega) (dr0 xs).1 (by omega)) (by repeat (first | rfl | exact vfull (by first | (simp [splice]; done) | (simp [splice]; omega)) | exact rfull (by first | (simp [splice]; done) | (simp [splice]; omega)) | exact vroof0 (by simp) | exact vrefsplice (by simp) | exact vplace (by simp; done) (by omega) | exact vsplice (by simp) (by simp) | refine ceq ?_ ?_ | refine Eq.trans (vsplice (by first | (simp; done) | (simp; omega)) (by first | (simp; done) | (simp; omega))) ?_)) (by repeat (first | rfl | exact vfull (by first | (simp [splice]; done) | (simp [splice]; omega)) | exact rfull (by first | (simp [splice]; done) | (simp [splice]; omega)) | exact vroof0 (by simp) | exact vrefsplice (by simp) | exact vplace (by simp; done) (by omega) | exact vsplice (by simp) (by simp) | refine ceq ?_ ?_ | refine Eq.trans (vsplice (by first | (simp; done) | (simp; omega)) (by first | (simp; done) | (simp; omega))) ?_))), rfl, rfl, rfl, rfl, ?_⟩ | refine .inr ⟨[(lentId 0)], _, _, _, _, _, _, _, _, rfl, rfl, rfl, rfl, (SatM.of_eq (pick_satM xs hx hl 5 (by omega) (dr0 xs).1 (by omega)) (by repeat (first | rfl | exact vfull (by first | (simp [splice]; done) | (simp [splice]; omega)) | exact rfull (by first | (simp [splice]; done) | (simp [splice]; omega)) | exact vroof0 (by simp) | exact vrefsplice (by simp) | exact vplace (by simp; done) (by omega) | exact vsplice (by simp) (by simp) | refine ceq ?_ ?_ | refine Eq.trans (vsplice (by first | (simp; done) | (simp; omega)) (by first | (simp; done) | (simp; omega))) ?_)) (by repeat (first | rfl | exact vfull (by first | (simp [splice]; done) | (simp [splice]; omega)) | exact rfull (by first | (simp [splice]; done) | (simp [splice]; omega)) | exact vroof0 (by simp) | exact vrefsplice (by simp) | exact vplace (by simp; done) (by omega) | exact vsplice (by simp) (by simp) | refine ceq ?_ ?_ | refine Eq.trans (vsplice (by first | (simp; done) | (simp; omega)) (by first | (simp; done) | (simp; omega))) ?_))), rfl, rfl, rfl, rfl, ?_⟩ | refine ⟨[(lentId 0)], _, _, _, _, _, rfl, rfl, rfl, rfl, (SatM.of_eq (pick_satM xs hx hl 5 (by omega) (dr0 xs).1 (by omega)) (by repeat (first | rfl | exact vfull (by first | (simp [splice]; done) | (simp [splice]; omega)) | exact rfull (by first | (simp [splice]; done) | (simp [splice]; omega)) | exact vroof0 (by simp) | exact vrefsplice (by simp) | exact vplace (by simp; done) (by omega) | exact vsplice (by simp) (by simp) | refine ceq ?_ ?_ | refine Eq.trans (vsplice (by first | (simp; done) | (simp; omega)) (by first | (simp; done) | (simp; omega))) ?_)) (by repeat (first | rfl | exact vfull (by first | (simp [splice]; done) | (simp [splice]; omega)) | exact rfull (by first | (simp [splice]; done) | (simp [splice]; omega)) | exact vroof0 (by simp) | exact vrefsplice (by simp) | exact vplace (by simp; done) (by omega) | exact vsplice (by simp) (by simp) | refine ceq ?_ ?_ | refine Eq.trans (vsplice (by first | (simp; done) | (simp; omega)) (by first | (simp; done) | (simp; omega))) ?_))), rfl, rfl, ?_⟩
  conv => whnf
  repeat (first | (refine And.intro (by first | exact Nat.le_of_ble_eq_true rfl | exact trivial | exact rfl | decide | omega | (simp [splice]; done) | (constructor <;> omega) | (simp [splice]; omega)) ?_; conv => whnf) | (refine optK_of (gridN (by omega) (by omega)) ?_; conv => whnf) | (refine optK_of (roofN (by omega) (by omega)) ?_; conv => whnf) | (refine optK_of (placeA (by omega)) ?_; conv => whnf) | (refine optK_of (placeB (by omega)) ?_; conv => whnf) | (refine optK_of (placeA' (by omega)) ?_; conv => whnf) | (refine optK_of (placeB' (by omega)) ?_; conv => whnf))
  first | refine ⟨[(lentId 0)], _, _, _, _, _, _, _, _, rfl, rfl, rfl, rfl, (SatM.of_eq (pick_satM xs hx hl 2 (by omega) (dr1 xs).1 (by omega)) (by repeat (first | rfl | exact vfull (by first | (simp [splice]; done) | (simp [splice]; omega)) | exact rfull (by first | (simp [splice]; done) | (simp [splice]; omega)) | exact vroof0 (by simp) | exact vrefsplice (by simp) | exact vplace (by simp; done) (by omega) | exact vsplice (by simp) (by simp) | refine ceq ?_ ?_ | refine Eq.trans (vsplice (by first | (simp; done) | (simp; omega)) (by first | (simp; done) | (simp; omega))) ?_)) (by repeat (first | rfl | exact vfull (by first | (simp [splice]; done) | (simp [splice]; omega)) | exact rfull (by first | (simp [splice]; done) | (simp [splice]; omega)) | exact vroof0 (by simp) | exact vrefsplice (by simp) | exact vplace (by simp; done) (by omega) | exact vsplice (by simp) (by simp) | refine ceq ?_ ?_ | refine Eq.trans (vsplice (by first | (simp; done) | (simp; omega)) (by first | (simp; done) | (simp; omega))) ?_))), rfl, rfl, rfl, rfl, ?_⟩ | refine .inr ⟨[(lentId 0)], _, _, _, _, _, _, _, _, rfl, rfl, rfl, rfl, (SatM.of_eq (pick_satM xs hx hl 2 (by omega) (dr1 xs).1 (by omega)) (by repeat (first | rfl | exact vfull (by first | (simp [splice]; done) | (simp [splice]; omega)) | exact rfull (by first | (simp [splice]; done) | (simp [splice]; omega)) | exact vroof0 (by simp) | exact vrefsplice (by simp) | exact vplace (by simp; done) (by omega) | exact vsplice (by simp) (by simp) | refine ceq ?_ ?_ | refine Eq.trans (vsplice (by first | (simp; done) | (simp; omega)) (by first | (simp; done) | (simp; omega))) ?_)) (by repeat (first | rfl | exact vfull (by first | (simp [splice]; done) | (simp [splice]; omega)) | exact rfull (by first | (simp [splice]; done) | (simp [splice]; omega)) | exact vroof0 (by simp) | exact vrefsplice (by simp) | exact vplace (by simp; done) (by omega) | exact vsplice (by simp) (by simp) | refine ceq ?_ ?_ | refine Eq.trans (vsplice (by first | (simp; done) | (simp; omega)) (by first | (simp; done) | (simp; omega))) ?_))), rfl, rfl, rfl, rfl, ?_⟩ | refine ⟨[(lentId 0)], _, _, _, _, _, rfl, rfl, rfl, rfl, (SatM.of_eq (pick_satM xs hx hl 2 (by omega) (dr1 xs).1 (by omega)) (by repeat (first | rfl | exact vfull (by first | (simp [splice]; done) | (simp [splice]; omega)) | exact rfull (by first | (simp [splice]; done) | (simp [splice]; omega)) | exact vroof0 (by simp) | exact vrefsplice (by simp) | exact vplace (by simp; done) (by omega) | exact vsplice (by simp) (by simp) | refine ceq ?_ ?_ | refine Eq.trans (vsplice (by first | (simp; done) | (simp; omega)) (by first | (simp; done) | (simp; omega))) ?_)) (by repeat (first | rfl | exact vfull (by first | (simp [splice]; done) | (simp [splice]; omega)) | exact rfull (by first | (simp [splice]; done) | (simp [splice]; omega)) | exact vroof0 (by simp) | exact vrefsplice (by simp) | exact vplace (by simp; done) (by omega) | exact vsplice (by simp) (by simp) | refine ceq ?_ ?_ | refine Eq.trans (vsplice (by first | (simp; done) | (simp; omega)) (by first | (simp; done) | (simp; omega))) ?_))), rfl, rfl, ?_⟩
  conv => whnf
  repeat (first | (refine And.intro (by first | exact Nat.le_of_ble_eq_true rfl | exact trivial | exact rfl | decide | omega | (simp [splice]; done) | (constructor <;> omega) | (simp [splice]; omega)) ?_; conv => whnf) | (refine optK_of (gridN (by omega) (by omega)) ?_; conv => whnf) | (refine optK_of (roofN (by omega) (by omega)) ?_; conv => whnf) | (refine optK_of (placeA (by omega)) ?_; conv => whnf) | (refine optK_of (placeB (by omega)) ?_; conv => whnf) | (refine optK_of (placeA' (by omega)) ?_; conv => whnf) | (refine optK_of (placeB' (by omega)) ?_; conv => whnf))
  rw [show IntKind.i8.wrap (IntKind.i64.wrap (1 + pkV xs 5 s0)) = (drR0 xs).w by rw [show pkV xs 5 s0 = (dr0 xs).2 from rfl, w64 (by omega) (by omega), w8 (by omega) (by omega)]; rfl,
    show IntKind.i8.wrap (IntKind.i64.wrap (1 + pkV xs 5 (dr0 xs).1)) = (drR0 xs).h by rw [show pkV xs 5 (dr0 xs).1 = (dr1 xs).2 from rfl, w64 (by omega) (by omega), w8 (by omega) (by omega)]; rfl,
    show IntKind.u8.wrap (pkV xs 2 (dr1 xs).1) = (drR0 xs).s by rw [show pkV xs 2 (dr1 xs).1 = (dr2 xs).2 from rfl, wu8 (by omega) (by omega)]; rfl]
  first | refine ⟨[(lentId 0)], _, _, _, _, _, _, _, _, rfl, rfl, rfl, rfl, (SatM.of_eq (pick_satM xs hx hl 5 (by omega) (dr2 xs).1 (by omega)) (by repeat (first | rfl | exact vfull (by first | (simp [splice]; done) | (simp [splice]; omega)) | exact rfull (by first | (simp [splice]; done) | (simp [splice]; omega)) | exact vroof0 (by simp) | exact vrefsplice (by simp) | exact vplace (by simp; done) (by omega) | exact vsplice (by simp) (by simp) | refine ceq ?_ ?_ | refine Eq.trans (vsplice (by first | (simp; done) | (simp; omega)) (by first | (simp; done) | (simp; omega))) ?_)) (by repeat (first | rfl | exact vfull (by first | (simp [splice]; done) | (simp [splice]; omega)) | exact rfull (by first | (simp [splice]; done) | (simp [splice]; omega)) | exact vroof0 (by simp) | exact vrefsplice (by simp) | exact vplace (by simp; done) (by omega) | exact vsplice (by simp) (by simp) | refine ceq ?_ ?_ | refine Eq.trans (vsplice (by first | (simp; done) | (simp; omega)) (by first | (simp; done) | (simp; omega))) ?_))), rfl, rfl, rfl, rfl, ?_⟩ | refine .inr ⟨[(lentId 0)], _, _, _, _, _, _, _, _, rfl, rfl, rfl, rfl, (SatM.of_eq (pick_satM xs hx hl 5 (by omega) (dr2 xs).1 (by omega)) (by repeat (first | rfl | exact vfull (by first | (simp [splice]; done) | (simp [splice]; omega)) | exact rfull (by first | (simp [splice]; done) | (simp [splice]; omega)) | exact vroof0 (by simp) | exact vrefsplice (by simp) | exact vplace (by simp; done) (by omega) | exact vsplice (by simp) (by simp) | refine ceq ?_ ?_ | refine Eq.trans (vsplice (by first | (simp; done) | (simp; omega)) (by first | (simp; done) | (simp; omega))) ?_)) (by repeat (first | rfl | exact vfull (by first | (simp [splice]; done) | (simp [splice]; omega)) | exact rfull (by first | (simp [splice]; done) | (simp [splice]; omega)) | exact vroof0 (by simp) | exact vrefsplice (by simp) | exact vplace (by simp; done) (by omega) | exact vsplice (by simp) (by simp) | refine ceq ?_ ?_ | refine Eq.trans (vsplice (by first | (simp; done) | (simp; omega)) (by first | (simp; done) | (simp; omega))) ?_))), rfl, rfl, rfl, rfl, ?_⟩ | refine ⟨[(lentId 0)], _, _, _, _, _, rfl, rfl, rfl, rfl, (SatM.of_eq (pick_satM xs hx hl 5 (by omega) (dr2 xs).1 (by omega)) (by repeat (first | rfl | exact vfull (by first | (simp [splice]; done) | (simp [splice]; omega)) | exact rfull (by first | (simp [splice]; done) | (simp [splice]; omega)) | exact vroof0 (by simp) | exact vrefsplice (by simp) | exact vplace (by simp; done) (by omega) | exact vsplice (by simp) (by simp) | refine ceq ?_ ?_ | refine Eq.trans (vsplice (by first | (simp; done) | (simp; omega)) (by first | (simp; done) | (simp; omega))) ?_)) (by repeat (first | rfl | exact vfull (by first | (simp [splice]; done) | (simp [splice]; omega)) | exact rfull (by first | (simp [splice]; done) | (simp [splice]; omega)) | exact vroof0 (by simp) | exact vrefsplice (by simp) | exact vplace (by simp; done) (by omega) | exact vsplice (by simp) (by simp) | refine ceq ?_ ?_ | refine Eq.trans (vsplice (by first | (simp; done) | (simp; omega)) (by first | (simp; done) | (simp; omega))) ?_))), rfl, rfl, ?_⟩
  conv => whnf
  repeat (first | (refine And.intro (by first | exact Nat.le_of_ble_eq_true rfl | exact trivial | exact rfl | decide | omega | (simp [splice]; done) | (constructor <;> omega) | (simp [splice]; omega)) ?_; conv => whnf) | (refine optK_of (gridN (by omega) (by omega)) ?_; conv => whnf) | (refine optK_of (roofN (by omega) (by omega)) ?_; conv => whnf) | (refine optK_of (placeA (by omega)) ?_; conv => whnf) | (refine optK_of (placeB (by omega)) ?_; conv => whnf) | (refine optK_of (placeA' (by omega)) ?_; conv => whnf) | (refine optK_of (placeB' (by omega)) ?_; conv => whnf))
  rw [show IntKind.i64.wrap (2 + pkV xs 5 (dr2 xs).1) = drFew xs by rw [show pkV xs 5 (dr2 xs).1 = (dr3 xs).2 from rfl, w64 (by omega) (by omega)]; rfl]
  have hall : Sat Try.prog 58 [.ref false (roofD (drR0 xs)) 0] (placesD true (drG xs)) := by unfold drG; rw [← allP_true]; exact l01All_sat (drR0 xs) hin0 hb0
  first | refine ⟨_, _, rfl, Sat.of_eq (hall) (by repeat (first | rfl | exact vfull (by first | (simp [splice]; done) | (simp [splice]; omega)) | exact rfull (by first | (simp [splice]; done) | (simp [splice]; omega)) | exact vroof0 (by simp) | exact vrefsplice (by simp) | exact vplace (by simp; done) (by omega) | exact vsplice (by simp) (by simp) | refine ceq ?_ ?_ | refine Eq.trans (vsplice (by first | (simp; done) | (simp; omega)) (by first | (simp; done) | (simp; omega))) ?_)), ?_⟩ | refine .inl ⟨_, _, rfl, Sat.of_eq (hall) (by repeat (first | rfl | exact vfull (by first | (simp [splice]; done) | (simp [splice]; omega)) | exact rfull (by first | (simp [splice]; done) | (simp [splice]; omega)) | exact vroof0 (by simp) | exact vrefsplice (by simp) | exact vplace (by simp; done) (by omega) | exact vsplice (by simp) (by simp) | refine ceq ?_ ?_ | refine Eq.trans (vsplice (by first | (simp; done) | (simp; omega)) (by first | (simp; done) | (simp; omega))) ?_)), ?_⟩
  conv => whnf
  repeat (first | (refine And.intro (by first | exact Nat.le_of_ble_eq_true rfl | exact trivial | exact rfl | decide | omega | (simp [splice]; done) | (constructor <;> omega) | (simp [splice]; omega)) ?_; conv => whnf) | (refine optK_of (gridN (by omega) (by omega)) ?_; conv => whnf) | (refine optK_of (roofN (by omega) (by omega)) ?_; conv => whnf) | (refine optK_of (placeA (by omega)) ?_; conv => whnf) | (refine optK_of (placeB (by omega)) ?_; conv => whnf) | (refine optK_of (placeA' (by omega)) ?_; conv => whnf) | (refine optK_of (placeB' (by omega)) ?_; conv => whnf))
  have hdl : (drG xs).length ≤ 72 := (gridP_size hb0).2
  have hdin : AllIn (drG xs) := gridP_in (by omega) (by omega)
  have hfew : 2 ≤ drFew xs ∧ drFew xs ≤ 6 := by unfold drFew; omega
  have hres : dwR xs = dwQ xs (drG xs) (drFew xs) (drR0 xs) (dr3 xs).1 (drG xs).length := rfl
  have hQ := fun i hi => dwQ_ok hx hok0 hin0 (few := drFew xs) (σ := (dr3 xs).1) i hi
  change ∀ i, i ≤ (drG xs).length → okR (dwQ xs (drG xs) (drFew xs) (drR0 xs) (dr3 xs).1 i).1 = true ∧ (dwQ xs (drG xs) (drFew xs) (drR0 xs) (dr3 xs).1 i).1.In at hQ
  have hat := dwQ_at xs (drG xs) (drFew xs) (drR0 xs) (dr3 xs).1
  rw [hres]
  have hno := fun i h => dwQ_no (xs := xs) (ps := drG xs) (few := drFew xs) (r := drR0 xs) (σ := (dr3 xs).1) (i := i) h
  have hyes := fun i h => dwQ_yes (xs := xs) (ps := drG xs) (few := drFew xs) (r := drR0 xs) (σ := (dr3 xs).1) (i := i) h
  have hz : dwQ xs (drG xs) (drFew xs) (drR0 xs) (dr3 xs).1 0 = (drR0 xs, (dr3 xs).1) := rfl
  generalize dwQ xs (drG xs) (drFew xs) (drR0 xs) (dr3 xs).1 = F at *
  generalize drG xs = ps at *
  refine loop_rule (α := Nat) (fun i => [(0, .ptr (lentId 0) 0), (2, .ptr (2, 0, 0) 0), (3, .ptr (3, 0, 0) 0), (4, .v (.int .i64 (drFew xs))), (5, .slc true 2 (22, 0, 0) 0 ps.length), (6, .v (.int .i64 i))]) (fun i => [(lentId 0, srcD xs (F i).2), ((2, 0, 0), .v (.agg ⟨[.int .i8 0, .int .i8 0] ++ List.replicate 65 (.int .u8 0)⟩)), ((3, 0, 0), roofD (F i).1), ((22, 0, 0), .v (.agg ⟨placesC ps⟩))]) (fun i => i ≤ ps.length) (fun i => ps.length - i) (0) ?_ (sim_of (rn := [((2, 0, 0), (2, 0, 0)), ((3, 0, 0), (3, 0, 0)), ((22, 0, 0), (22, 0, 0))]) rfl ?_ ?_) ?_
  · first | omega | (dsimp only; omega) | ((repeat' apply And.intro) <;> omega) | (dsimp only; (repeat' apply And.intro) <;> omega) | trivial
  · ((repeat' (first | exact trivial | apply And.intro)) <;> (first | rfl | exact succ8 (by omega) | exact succ64 (by omega) | exact CapOk.fn (by assumption) _ _ | exact vintS (by omega) | exact vintS (by rw [w64 (by omega) (by omega)]; omega) | exact vintS (by rw [w8 (by omega) (by omega)]; omega) | exact vslcS (by omega) | exact vslcS (by simp)))
  · ((repeat' (first | exact trivial | apply And.intro)) <;> ((first | refine ⟨_, _, rfl, rfl, ?_⟩ ); first | rfl | (first | (rw [hz]; rfl) | (rw [hz]; exact vroof0S (by simp)))))
  intro i hi
  have hFi := hat i
  have hqo := hQ i hi
  conv => whnf
  repeat (first | (refine And.intro (by first | exact Nat.le_of_ble_eq_true rfl | exact trivial | exact rfl | decide | omega | (simp [splice]; done) | (constructor <;> omega) | (simp [splice]; omega)) ?_; conv => whnf) | (refine optK_of (gridN (by omega) (by omega)) ?_; conv => whnf) | (refine optK_of (roofN (by omega) (by omega)) ?_; conv => whnf) | (refine optK_of (placeA (by omega)) ?_; conv => whnf) | (refine optK_of (placeB (by omega)) ?_; conv => whnf) | (refine optK_of (placeA' (by omega)) ?_; conv => whnf) | (refine optK_of (placeB' (by omega)) ?_; conv => whnf))
  cases h : decide ((i : Int) < (ps.length : Int))
  · have hin : i = ps.length := by simp at h; omega
    subst hin
    conv => whnf
    repeat (first | (refine And.intro (by first | exact Nat.le_of_ble_eq_true rfl | exact trivial | exact rfl | decide | omega | (simp [splice]; done) | (constructor <;> omega) | (simp [splice]; omega)) ?_; conv => whnf) | (refine optK_of (gridN (by omega) (by omega)) ?_; conv => whnf) | (refine optK_of (roofN (by omega) (by omega)) ?_; conv => whnf) | (refine optK_of (placeA (by omega)) ?_; conv => whnf) | (refine optK_of (placeB (by omega)) ?_; conv => whnf) | (refine optK_of (placeA' (by omega)) ?_; conv => whnf) | (refine optK_of (placeB' (by omega)) ?_; conv => whnf))
    refine ⟨[], _, rfl, rfl, rfl, ?_, ?_, rfl⟩
    · (exact (roofD_copied (r := (F ps.length).1) (by simp)).symm)
    ((repeat' (first | exact trivial | apply And.intro)) <;> (refine ⟨_, rfl, ?_⟩; first | rfl | (rfl)))
  have hin : i < ps.length := by simpa using h
  have hqi := hdin i hin
  conv => whnf
  repeat (first | (refine And.intro (by first | exact Nat.le_of_ble_eq_true rfl | exact trivial | exact rfl | decide | omega | (simp [splice]; done) | (constructor <;> omega) | (simp [splice]; omega)) ?_; conv => whnf) | (refine optK_of (gridN (by omega) (by omega)) ?_; conv => whnf) | (refine optK_of (roofN (by omega) (by omega)) ?_; conv => whnf) | (refine optK_of (placeA (by omega)) ?_; conv => whnf) | (refine optK_of (placeB (by omega)) ?_; conv => whnf) | (refine optK_of (placeA' (by omega)) ?_; conv => whnf) | (refine optK_of (placeB' (by omega)) ?_; conv => whnf))
  first | refine ⟨[(lentId 0)], _, _, _, _, _, _, _, _, rfl, rfl, rfl, rfl, (SatM.of_eq (one_satM xs hx hl (drFew xs) (by omega) (F i).2 (by omega)) (by repeat (first | rfl | exact vfull (by first | (simp [splice]; done) | (simp [splice]; omega)) | exact rfull (by first | (simp [splice]; done) | (simp [splice]; omega)) | exact vroof0 (by simp) | exact vrefsplice (by simp) | exact vplace (by simp; done) (by omega) | exact vsplice (by simp) (by simp) | refine ceq ?_ ?_ | refine Eq.trans (vsplice (by first | (simp; done) | (simp; omega)) (by first | (simp; done) | (simp; omega))) ?_)) (by repeat (first | rfl | exact vfull (by first | (simp [splice]; done) | (simp [splice]; omega)) | exact rfull (by first | (simp [splice]; done) | (simp [splice]; omega)) | exact vroof0 (by simp) | exact vrefsplice (by simp) | exact vplace (by simp; done) (by omega) | exact vsplice (by simp) (by simp) | refine ceq ?_ ?_ | refine Eq.trans (vsplice (by first | (simp; done) | (simp; omega)) (by first | (simp; done) | (simp; omega))) ?_))), rfl, rfl, rfl, rfl, ?_⟩ | refine .inr ⟨[(lentId 0)], _, _, _, _, _, _, _, _, rfl, rfl, rfl, rfl, (SatM.of_eq (one_satM xs hx hl (drFew xs) (by omega) (F i).2 (by omega)) (by repeat (first | rfl | exact vfull (by first | (simp [splice]; done) | (simp [splice]; omega)) | exact rfull (by first | (simp [splice]; done) | (simp [splice]; omega)) | exact vroof0 (by simp) | exact vrefsplice (by simp) | exact vplace (by simp; done) (by omega) | exact vsplice (by simp) (by simp) | refine ceq ?_ ?_ | refine Eq.trans (vsplice (by first | (simp; done) | (simp; omega)) (by first | (simp; done) | (simp; omega))) ?_)) (by repeat (first | rfl | exact vfull (by first | (simp [splice]; done) | (simp [splice]; omega)) | exact rfull (by first | (simp [splice]; done) | (simp [splice]; omega)) | exact vroof0 (by simp) | exact vrefsplice (by simp) | exact vplace (by simp; done) (by omega) | exact vsplice (by simp) (by simp) | refine ceq ?_ ?_ | refine Eq.trans (vsplice (by first | (simp; done) | (simp; omega)) (by first | (simp; done) | (simp; omega))) ?_))), rfl, rfl, rfl, rfl, ?_⟩ | refine ⟨[(lentId 0)], _, _, _, _, _, rfl, rfl, rfl, rfl, (SatM.of_eq (one_satM xs hx hl (drFew xs) (by omega) (F i).2 (by omega)) (by repeat (first | rfl | exact vfull (by first | (simp [splice]; done) | (simp [splice]; omega)) | exact rfull (by first | (simp [splice]; done) | (simp [splice]; omega)) | exact vroof0 (by simp) | exact vrefsplice (by simp) | exact vplace (by simp; done) (by omega) | exact vsplice (by simp) (by simp) | refine ceq ?_ ?_ | refine Eq.trans (vsplice (by first | (simp; done) | (simp; omega)) (by first | (simp; done) | (simp; omega))) ?_)) (by repeat (first | rfl | exact vfull (by first | (simp [splice]; done) | (simp [splice]; omega)) | exact rfull (by first | (simp [splice]; done) | (simp [splice]; omega)) | exact vroof0 (by simp) | exact vrefsplice (by simp) | exact vplace (by simp; done) (by omega) | exact vsplice (by simp) (by simp) | refine ceq ?_ ?_ | refine Eq.trans (vsplice (by first | (simp; done) | (simp; omega)) (by first | (simp; done) | (simp; omega))) ?_))), rfl, rfl, ?_⟩
  conv => whnf
  repeat (first | (refine And.intro (by first | exact Nat.le_of_ble_eq_true rfl | exact trivial | exact rfl | decide | omega | (simp [splice]; done) | (constructor <;> omega) | (simp [splice]; omega)) ?_; conv => whnf) | (refine optK_of (gridN (by omega) (by omega)) ?_; conv => whnf) | (refine optK_of (roofN (by omega) (by omega)) ?_; conv => whnf) | (refine optK_of (placeA (by omega)) ?_; conv => whnf) | (refine optK_of (placeB (by omega)) ?_; conv => whnf) | (refine optK_of (placeA' (by omega)) ?_; conv => whnf) | (refine optK_of (placeB' (by omega)) ?_; conv => whnf))
  cases h2 : (pkV xs (drFew xs) (F i).2 == 0)
  · have h2' : ¬ pkV xs (drFew xs) (F i).2 = 0 := by simpa using h2
    have e := hno i h2'
    conv => whnf
    repeat (first | (refine And.intro (by first | exact Nat.le_of_ble_eq_true rfl | exact trivial | exact rfl | decide | omega | (simp [splice]; done) | (constructor <;> omega) | (simp [splice]; omega)) ?_; conv => whnf) | (refine optK_of (gridN (by omega) (by omega)) ?_; conv => whnf) | (refine optK_of (roofN (by omega) (by omega)) ?_; conv => whnf) | (refine optK_of (placeA (by omega)) ?_; conv => whnf) | (refine optK_of (placeB (by omega)) ?_; conv => whnf) | (refine optK_of (placeA' (by omega)) ?_; conv => whnf) | (refine optK_of (placeB' (by omega)) ?_; conv => whnf))
    refine ⟨i + 1, ?_, ?_, sim_of (rn := [((2, 0, 0), (2, 0, 0)), ((3, 0, 0), (3, 0, 0)), ((22, 0, 0), (22, 0, 0))]) rfl ?_ ?_⟩
    · (dsimp only; omega)
    · first | omega | (dsimp only; omega) | ((repeat' apply And.intro) <;> omega) | (dsimp only; (repeat' apply And.intro) <;> omega) | trivial
    · ((repeat' (first | exact trivial | apply And.intro)) <;> (first | rfl | exact succ8 (by omega) | exact succ64 (by omega) | exact CapOk.fn (by assumption) _ _ | exact vintS (by omega) | exact vintS (by rw [w64 (by omega) (by omega)]; omega) | exact vintS (by rw [w8 (by omega) (by omega)]; omega) | exact vslcS (by omega) | exact vslcS (by simp)))
    · ((repeat' (first | exact trivial | apply And.intro)) <;> ((first | refine ⟨_, _, rfl, rfl, ?_⟩ ); first | rfl | ((rw [e]; rfl))))
  have h2' : pkV xs (drFew xs) (F i).2 = 0 := by simpa using h2
  have e := hyes i h2'
  have hle := pkS_le xs (drFew xs) (F i).2
  have hp := pkV_in hx (n := 4) (by omega) (pkS xs (drFew xs) (F i).2)
  conv => whnf
  repeat (first | (refine And.intro (by first | exact Nat.le_of_ble_eq_true rfl | exact trivial | exact rfl | decide | omega | (simp [splice]; done) | (constructor <;> omega) | (simp [splice]; omega)) ?_; conv => whnf) | (refine optK_of (gridN (by omega) (by omega)) ?_; conv => whnf) | (refine optK_of (roofN (by omega) (by omega)) ?_; conv => whnf) | (refine optK_of (placeA (by omega)) ?_; conv => whnf) | (refine optK_of (placeB (by omega)) ?_; conv => whnf) | (refine optK_of (placeA' (by omega)) ?_; conv => whnf) | (refine optK_of (placeB' (by omega)) ?_; conv => whnf))
  first | refine ⟨[(lentId 0)], _, _, _, _, _, _, _, _, rfl, rfl, rfl, rfl, (SatM.of_eq (pick_satM xs hx hl 4 (by omega) (pkS xs (drFew xs) (F i).2) (by omega)) (by repeat (first | rfl | exact vfull (by first | (simp [splice]; done) | (simp [splice]; omega)) | exact rfull (by first | (simp [splice]; done) | (simp [splice]; omega)) | exact vroof0 (by simp) | exact vrefsplice (by simp) | exact vplace (by simp; done) (by omega) | exact vsplice (by simp) (by simp) | refine ceq ?_ ?_ | refine Eq.trans (vsplice (by first | (simp; done) | (simp; omega)) (by first | (simp; done) | (simp; omega))) ?_)) (by repeat (first | rfl | exact vfull (by first | (simp [splice]; done) | (simp [splice]; omega)) | exact rfull (by first | (simp [splice]; done) | (simp [splice]; omega)) | exact vroof0 (by simp) | exact vrefsplice (by simp) | exact vplace (by simp; done) (by omega) | exact vsplice (by simp) (by simp) | refine ceq ?_ ?_ | refine Eq.trans (vsplice (by first | (simp; done) | (simp; omega)) (by first | (simp; done) | (simp; omega))) ?_))), rfl, rfl, rfl, rfl, ?_⟩ | refine .inr ⟨[(lentId 0)], _, _, _, _, _, _, _, _, rfl, rfl, rfl, rfl, (SatM.of_eq (pick_satM xs hx hl 4 (by omega) (pkS xs (drFew xs) (F i).2) (by omega)) (by repeat (first | rfl | exact vfull (by first | (simp [splice]; done) | (simp [splice]; omega)) | exact rfull (by first | (simp [splice]; done) | (simp [splice]; omega)) | exact vroof0 (by simp) | exact vrefsplice (by simp) | exact vplace (by simp; done) (by omega) | exact vsplice (by simp) (by simp) | refine ceq ?_ ?_ | refine Eq.trans (vsplice (by first | (simp; done) | (simp; omega)) (by first | (simp; done) | (simp; omega))) ?_)) (by repeat (first | rfl | exact vfull (by first | (simp [splice]; done) | (simp [splice]; omega)) | exact rfull (by first | (simp [splice]; done) | (simp [splice]; omega)) | exact vroof0 (by simp) | exact vrefsplice (by simp) | exact vplace (by simp; done) (by omega) | exact vsplice (by simp) (by simp) | refine ceq ?_ ?_ | refine Eq.trans (vsplice (by first | (simp; done) | (simp; omega)) (by first | (simp; done) | (simp; omega))) ?_))), rfl, rfl, rfl, rfl, ?_⟩ | refine ⟨[(lentId 0)], _, _, _, _, _, rfl, rfl, rfl, rfl, (SatM.of_eq (pick_satM xs hx hl 4 (by omega) (pkS xs (drFew xs) (F i).2) (by omega)) (by repeat (first | rfl | exact vfull (by first | (simp [splice]; done) | (simp [splice]; omega)) | exact rfull (by first | (simp [splice]; done) | (simp [splice]; omega)) | exact vroof0 (by simp) | exact vrefsplice (by simp) | exact vplace (by simp; done) (by omega) | exact vsplice (by simp) (by simp) | refine ceq ?_ ?_ | refine Eq.trans (vsplice (by first | (simp; done) | (simp; omega)) (by first | (simp; done) | (simp; omega))) ?_)) (by repeat (first | rfl | exact vfull (by first | (simp [splice]; done) | (simp [splice]; omega)) | exact rfull (by first | (simp [splice]; done) | (simp [splice]; omega)) | exact vroof0 (by simp) | exact vrefsplice (by simp) | exact vplace (by simp; done) (by omega) | exact vsplice (by simp) (by simp) | refine ceq ?_ ?_ | refine Eq.trans (vsplice (by first | (simp; done) | (simp; omega)) (by first | (simp; done) | (simp; omega))) ?_))), rfl, rfl, ?_⟩
  conv => whnf
  repeat (first | (refine And.intro (by first | exact Nat.le_of_ble_eq_true rfl | exact trivial | exact rfl | decide | omega | (simp [splice]; done) | (constructor <;> omega) | (simp [splice]; omega)) ?_; conv => whnf) | (refine optK_of (gridN (by omega) (by omega)) ?_; conv => whnf) | (refine optK_of (roofN (by omega) (by omega)) ?_; conv => whnf) | (refine optK_of (placeA (by omega)) ?_; conv => whnf) | (refine optK_of (placeB (by omega)) ?_; conv => whnf) | (refine optK_of (placeA' (by omega)) ?_; conv => whnf) | (refine optK_of (placeB' (by omega)) ?_; conv => whnf))
  have setA := roof_set (r := (F i).1) (c := (nthP ps i).1) (k := (nthP ps i).2) (o := 0 + 3 + ((nthP ps i).1 : Int).toNat * 8 + ((nthP ps i).2 : Int).toNat * 1) (x := IntKind.u8.wrap (pkV xs 4 (pkS xs (drFew xs) (F i).2))) (by simp) hqi.1 hqi.2
  rw [wu8 (n := pkV xs 4 (pkS xs (drFew xs) (F i).2)) (by omega) (by omega)] at setA ⊢
  refine ⟨i + 1, ?_, ?_, sim_of (rn := [((2, 0, 0), (2, 0, 0)), ((3, 0, 0), (3, 0, 0)), ((22, 0, 0), (22, 0, 0))]) rfl ?_ ?_⟩
  · (dsimp only; omega)
  · first | omega | (dsimp only; omega) | ((repeat' apply And.intro) <;> omega) | (dsimp only; (repeat' apply And.intro) <;> omega) | trivial
  · ((repeat' (first | exact trivial | apply And.intro)) <;> (first | rfl | exact succ8 (by omega) | exact succ64 (by omega) | exact CapOk.fn (by assumption) _ _ | exact vintS (by omega) | exact vintS (by rw [w64 (by omega) (by omega)]; omega) | exact vintS (by rw [w8 (by omega) (by omega)]; omega) | exact vslcS (by omega) | exact vslcS (by simp)))
  · ((repeat' (first | exact trivial | apply And.intro)) <;> ((first | refine ⟨_, _, rfl, rfl, ?_⟩ ); first | rfl | (first | (rw [e]; rfl) | (rw [e]; exact cset setA))))
theorem a2Roof_sat (xs : List Int) (hx : Bytes xs) (hl : xs.length ≤ 3000) (m : Bool) : Sat Try.prog 6 [u8D m xs] (roofD (dwR xs).1) := by
  refine sat_of_wp hMix tOk Try.func6 rfl rfl Try.ntmps6 rfl rfl Try.results6 (by kernel_rfl) ?_
  conv => whnf
  repeat (first | (refine And.intro (by first | exact Nat.le_of_ble_eq_true rfl | exact trivial | exact rfl | decide | omega | (simp [splice]; done) | (constructor <;> omega) | (simp [splice]; omega)) ?_; conv => whnf) | (refine optK_of (gridN (by omega) (by omega)) ?_; conv => whnf) | (refine optK_of (roofN (by omega) (by omega)) ?_; conv => whnf) | (refine optK_of (placeA (by omega)) ?_; conv => whnf) | (refine optK_of (placeB (by omega)) ?_; conv => whnf) | (refine optK_of (placeA' (by omega)) ?_; conv => whnf) | (refine optK_of (placeB' (by omega)) ?_; conv => whnf))
  first | refine ⟨[], _, _, _, _, _, _, _, _, rfl, rfl, rfl, rfl, (SatM.of_eq (l00From_satM xs) (by repeat (first | rfl | exact vfull (by first | (simp [splice]; done) | (simp [splice]; omega)) | exact rfull (by first | (simp [splice]; done) | (simp [splice]; omega)) | exact vroof0 (by simp) | exact vrefsplice (by simp) | exact vplace (by simp; done) (by omega) | exact vsplice (by simp) (by simp) | refine ceq ?_ ?_ | refine Eq.trans (vsplice (by first | (simp; done) | (simp; omega)) (by first | (simp; done) | (simp; omega))) ?_)) (by repeat (first | rfl | exact vfull (by first | (simp [splice]; done) | (simp [splice]; omega)) | exact rfull (by first | (simp [splice]; done) | (simp [splice]; omega)) | exact vroof0 (by simp) | exact vrefsplice (by simp) | exact vplace (by simp; done) (by omega) | exact vsplice (by simp) (by simp) | refine ceq ?_ ?_ | refine Eq.trans (vsplice (by first | (simp; done) | (simp; omega)) (by first | (simp; done) | (simp; omega))) ?_))), rfl, rfl, rfl, rfl, ?_⟩ | refine .inr ⟨[], _, _, _, _, _, _, _, _, rfl, rfl, rfl, rfl, (SatM.of_eq (l00From_satM xs) (by repeat (first | rfl | exact vfull (by first | (simp [splice]; done) | (simp [splice]; omega)) | exact rfull (by first | (simp [splice]; done) | (simp [splice]; omega)) | exact vroof0 (by simp) | exact vrefsplice (by simp) | exact vplace (by simp; done) (by omega) | exact vsplice (by simp) (by simp) | refine ceq ?_ ?_ | refine Eq.trans (vsplice (by first | (simp; done) | (simp; omega)) (by first | (simp; done) | (simp; omega))) ?_)) (by repeat (first | rfl | exact vfull (by first | (simp [splice]; done) | (simp [splice]; omega)) | exact rfull (by first | (simp [splice]; done) | (simp [splice]; omega)) | exact vroof0 (by simp) | exact vrefsplice (by simp) | exact vplace (by simp; done) (by omega) | exact vsplice (by simp) (by simp) | refine ceq ?_ ?_ | refine Eq.trans (vsplice (by first | (simp; done) | (simp; omega)) (by first | (simp; done) | (simp; omega))) ?_))), rfl, rfl, rfl, rfl, ?_⟩ | refine ⟨[], _, _, _, _, _, rfl, rfl, rfl, rfl, (SatM.of_eq (l00From_satM xs) (by repeat (first | rfl | exact vfull (by first | (simp [splice]; done) | (simp [splice]; omega)) | exact rfull (by first | (simp [splice]; done) | (simp [splice]; omega)) | exact vroof0 (by simp) | exact vrefsplice (by simp) | exact vplace (by simp; done) (by omega) | exact vsplice (by simp) (by simp) | refine ceq ?_ ?_ | refine Eq.trans (vsplice (by first | (simp; done) | (simp; omega)) (by first | (simp; done) | (simp; omega))) ?_)) (by repeat (first | rfl | exact vfull (by first | (simp [splice]; done) | (simp [splice]; omega)) | exact rfull (by first | (simp [splice]; done) | (simp [splice]; omega)) | exact vroof0 (by simp) | exact vrefsplice (by simp) | exact vplace (by simp; done) (by omega) | exact vsplice (by simp) (by simp) | refine ceq ?_ ?_ | refine Eq.trans (vsplice (by first | (simp; done) | (simp; omega)) (by first | (simp; done) | (simp; omega))) ?_))), rfl, rfl, ?_⟩
  conv => whnf
  repeat (first | (refine And.intro (by first | exact Nat.le_of_ble_eq_true rfl | exact trivial | exact rfl | decide | omega | (simp [splice]; done) | (constructor <;> omega) | (simp [splice]; omega)) ?_; conv => whnf) | (refine optK_of (gridN (by omega) (by omega)) ?_; conv => whnf) | (refine optK_of (roofN (by omega) (by omega)) ?_; conv => whnf) | (refine optK_of (placeA (by omega)) ?_; conv => whnf) | (refine optK_of (placeB (by omega)) ?_; conv => whnf) | (refine optK_of (placeA' (by omega)) ?_; conv => whnf) | (refine optK_of (placeB' (by omega)) ?_; conv => whnf))
  first | refine ⟨[(4, 0, 0)], _, _, _, _, _, _, _, _, rfl, rfl, rfl, rfl, (SatM.of_eq (l01Drawn_satM xs hx hl) (by repeat (first | rfl | exact vfull (by first | (simp [splice]; done) | (simp [splice]; omega)) | exact rfull (by first | (simp [splice]; done) | (simp [splice]; omega)) | exact vroof0 (by simp) | exact vrefsplice (by simp) | exact vplace (by simp; done) (by omega) | exact vsplice (by simp) (by simp) | refine ceq ?_ ?_ | refine Eq.trans (vsplice (by first | (simp; done) | (simp; omega)) (by first | (simp; done) | (simp; omega))) ?_)) (by repeat (first | rfl | exact vfull (by first | (simp [splice]; done) | (simp [splice]; omega)) | exact rfull (by first | (simp [splice]; done) | (simp [splice]; omega)) | exact vroof0 (by simp) | exact vrefsplice (by simp) | exact vplace (by simp; done) (by omega) | exact vsplice (by simp) (by simp) | refine ceq ?_ ?_ | refine Eq.trans (vsplice (by first | (simp; done) | (simp; omega)) (by first | (simp; done) | (simp; omega))) ?_))), rfl, rfl, rfl, rfl, ?_⟩ | refine .inr ⟨[(4, 0, 0)], _, _, _, _, _, _, _, _, rfl, rfl, rfl, rfl, (SatM.of_eq (l01Drawn_satM xs hx hl) (by repeat (first | rfl | exact vfull (by first | (simp [splice]; done) | (simp [splice]; omega)) | exact rfull (by first | (simp [splice]; done) | (simp [splice]; omega)) | exact vroof0 (by simp) | exact vrefsplice (by simp) | exact vplace (by simp; done) (by omega) | exact vsplice (by simp) (by simp) | refine ceq ?_ ?_ | refine Eq.trans (vsplice (by first | (simp; done) | (simp; omega)) (by first | (simp; done) | (simp; omega))) ?_)) (by repeat (first | rfl | exact vfull (by first | (simp [splice]; done) | (simp [splice]; omega)) | exact rfull (by first | (simp [splice]; done) | (simp [splice]; omega)) | exact vroof0 (by simp) | exact vrefsplice (by simp) | exact vplace (by simp; done) (by omega) | exact vsplice (by simp) (by simp) | refine ceq ?_ ?_ | refine Eq.trans (vsplice (by first | (simp; done) | (simp; omega)) (by first | (simp; done) | (simp; omega))) ?_))), rfl, rfl, rfl, rfl, ?_⟩ | refine ⟨[(4, 0, 0)], _, _, _, _, _, rfl, rfl, rfl, rfl, (SatM.of_eq (l01Drawn_satM xs hx hl) (by repeat (first | rfl | exact vfull (by first | (simp [splice]; done) | (simp [splice]; omega)) | exact rfull (by first | (simp [splice]; done) | (simp [splice]; omega)) | exact vroof0 (by simp) | exact vrefsplice (by simp) | exact vplace (by simp; done) (by omega) | exact vsplice (by simp) (by simp) | refine ceq ?_ ?_ | refine Eq.trans (vsplice (by first | (simp; done) | (simp; omega)) (by first | (simp; done) | (simp; omega))) ?_)) (by repeat (first | rfl | exact vfull (by first | (simp [splice]; done) | (simp [splice]; omega)) | exact rfull (by first | (simp [splice]; done) | (simp [splice]; omega)) | exact vroof0 (by simp) | exact vrefsplice (by simp) | exact vplace (by simp; done) (by omega) | exact vsplice (by simp) (by simp) | refine ceq ?_ ?_ | refine Eq.trans (vsplice (by first | (simp; done) | (simp; omega)) (by first | (simp; done) | (simp; omega))) ?_))), rfl, rfl, ?_⟩
  conv => whnf
  repeat (first | (refine And.intro (by first | exact Nat.le_of_ble_eq_true rfl | exact trivial | exact rfl | decide | omega | (simp [splice]; done) | (constructor <;> omega) | (simp [splice]; omega)) ?_; conv => whnf) | (refine optK_of (gridN (by omega) (by omega)) ?_; conv => whnf) | (refine optK_of (roofN (by omega) (by omega)) ?_; conv => whnf) | (refine optK_of (placeA (by omega)) ?_; conv => whnf) | (refine optK_of (placeB (by omega)) ?_; conv => whnf) | (refine optK_of (placeA' (by omega)) ?_; conv => whnf) | (refine optK_of (placeB' (by omega)) ?_; conv => whnf))
  first | refine ⟨rfl, _, rfl, ?_⟩ | refine ⟨_, rfl, ?_⟩
  skip
  exact (roofD_copied (r := (dwR xs).1) (xs := [.int .i8 0, .int .i8 0] ++ List.replicate 65 (.int .u8 0)) (by simp)).symm.trans (by rw [take_drop0 (n := 67) (xs := roofC (dwR xs).1) (by simp)]; rfl)
theorem l07Aged_satM (xs : List Int) (hx : Bytes xs) (hl : xs.length ≤ 3000) (r : Roof) (hr : r.In) (hb : Rb r) :
    SatM Try.prog 45 [.ptr (lentId 0) 0, .ptr (lentId 1) 0] [srcD xs s0, roofD r] (gridD (agR xs r).1) [some (srcD xs (agR xs r).2), some (roofD r)] [] := by
  have hall : Sat Try.prog 58 [.ref false (roofD r) 0] (placesD true (gridP r.w.toNat r.h.toNat)) := by rw [← allP_true]; exact l01All_sat r hr hb
  have hdl : (gridP r.w.toNat r.h.toNat).length ≤ 72 := (gridP_size hb).2
  have hdin : AllIn (gridP r.w.toNat r.h.toNat) := gridP_in (by omega) (by omega)
  have hp0 := pkV_in hx (n := 30) (by omega) s0
  have hle0 : (pkS xs 30 s0).1 ≤ 1 := by have := pkS_le xs 30 s0; exact this
  have hmost : 1 ≤ agMost xs ∧ agMost xs ≤ 30 := by unfold agMost; omega
  have hres : agR xs r = agQ xs (gridP r.w.toNat r.h.toNat) (agMost xs) (pkS xs 30 s0) (gridP r.w.toNat r.h.toNat).length := rfl
  rw [hres]
  generalize gridP r.w.toNat r.h.toNat = ps at *
  have hat := agQ_at xs ps (agMost xs) (pkS xs 30 s0)
  have hnx : ∀ i, agQ xs ps (agMost xs) (pkS xs 30 s0) (i + 1) = (putG (agQ xs ps (agMost xs) (pkS xs 30 s0) i).1 (nthP ps i).1 (nthP ps i).2 (pkV xs (agMost xs) (agQ xs ps (agMost xs) (pkS xs 30 s0) i).2), pkS xs (agMost xs) (agQ xs ps (agMost xs) (pkS xs 30 s0) i).2) := fun i => rfl
  have hz : agQ xs ps (agMost xs) (pkS xs 30 s0) 0 = (fun _ _ => 0, pkS xs 30 s0) := rfl
  generalize agQ xs ps (agMost xs) (pkS xs 30 s0) = F at *
  refine satM_of_wp hMix tOk Try.func45 rfl rfl Try.ntmps45 rfl rfl Try.results45 (by kernel_rfl) ?_
  conv => whnf
  repeat (first | (refine And.intro (by first | exact Nat.le_of_ble_eq_true rfl | exact trivial | exact rfl | decide | omega | (simp [splice]; done) | (constructor <;> omega) | (simp [splice]; omega)) ?_; conv => whnf) | (refine optK_of (gridN (by omega) (by omega)) ?_; conv => whnf) | (refine optK_of (roofN (by omega) (by omega)) ?_; conv => whnf) | (refine optK_of (placeA (by omega)) ?_; conv => whnf) | (refine optK_of (placeB (by omega)) ?_; conv => whnf) | (refine optK_of (placeA' (by omega)) ?_; conv => whnf) | (refine optK_of (placeB' (by omega)) ?_; conv => whnf))
  first | refine ⟨[(lentId 0)], _, _, _, _, _, _, _, _, rfl, rfl, rfl, rfl, (SatM.of_eq (pick_satM xs hx hl 30 (by omega) s0 (by show 0 ≤ 1000000; omega)) (by repeat (first | rfl | exact vfull (by first | (simp [splice]; done) | (simp [splice]; omega)) | exact rfull (by first | (simp [splice]; done) | (simp [splice]; omega)) | exact vroof0 (by simp) | exact vrefsplice (by simp) | exact vplace (by simp; done) (by omega) | exact vsplice (by simp) (by simp) | refine ceq ?_ ?_ | refine Eq.trans (vsplice (by first | (simp; done) | (simp; omega)) (by first | (simp; done) | (simp; omega))) ?_)) (by repeat (first | rfl | exact vfull (by first | (simp [splice]; done) | (simp [splice]; omega)) | exact rfull (by first | (simp [splice]; done) | (simp [splice]; omega)) | exact vroof0 (by simp) | exact vrefsplice (by simp) | exact vplace (by simp; done) (by omega) | exact vsplice (by simp) (by simp) | refine ceq ?_ ?_ | refine Eq.trans (vsplice (by first | (simp; done) | (simp; omega)) (by first | (simp; done) | (simp; omega))) ?_))), rfl, rfl, rfl, rfl, ?_⟩ | refine .inr ⟨[(lentId 0)], _, _, _, _, _, _, _, _, rfl, rfl, rfl, rfl, (SatM.of_eq (pick_satM xs hx hl 30 (by omega) s0 (by show 0 ≤ 1000000; omega)) (by repeat (first | rfl | exact vfull (by first | (simp [splice]; done) | (simp [splice]; omega)) | exact rfull (by first | (simp [splice]; done) | (simp [splice]; omega)) | exact vroof0 (by simp) | exact vrefsplice (by simp) | exact vplace (by simp; done) (by omega) | exact vsplice (by simp) (by simp) | refine ceq ?_ ?_ | refine Eq.trans (vsplice (by first | (simp; done) | (simp; omega)) (by first | (simp; done) | (simp; omega))) ?_)) (by repeat (first | rfl | exact vfull (by first | (simp [splice]; done) | (simp [splice]; omega)) | exact rfull (by first | (simp [splice]; done) | (simp [splice]; omega)) | exact vroof0 (by simp) | exact vrefsplice (by simp) | exact vplace (by simp; done) (by omega) | exact vsplice (by simp) (by simp) | refine ceq ?_ ?_ | refine Eq.trans (vsplice (by first | (simp; done) | (simp; omega)) (by first | (simp; done) | (simp; omega))) ?_))), rfl, rfl, rfl, rfl, ?_⟩ | refine ⟨[(lentId 0)], _, _, _, _, _, rfl, rfl, rfl, rfl, (SatM.of_eq (pick_satM xs hx hl 30 (by omega) s0 (by show 0 ≤ 1000000; omega)) (by repeat (first | rfl | exact vfull (by first | (simp [splice]; done) | (simp [splice]; omega)) | exact rfull (by first | (simp [splice]; done) | (simp [splice]; omega)) | exact vroof0 (by simp) | exact vrefsplice (by simp) | exact vplace (by simp; done) (by omega) | exact vsplice (by simp) (by simp) | refine ceq ?_ ?_ | refine Eq.trans (vsplice (by first | (simp; done) | (simp; omega)) (by first | (simp; done) | (simp; omega))) ?_)) (by repeat (first | rfl | exact vfull (by first | (simp [splice]; done) | (simp [splice]; omega)) | exact rfull (by first | (simp [splice]; done) | (simp [splice]; omega)) | exact vroof0 (by simp) | exact vrefsplice (by simp) | exact vplace (by simp; done) (by omega) | exact vsplice (by simp) (by simp) | refine ceq ?_ ?_ | refine Eq.trans (vsplice (by first | (simp; done) | (simp; omega)) (by first | (simp; done) | (simp; omega))) ?_))), rfl, rfl, ?_⟩
  conv => whnf
  repeat (first | (refine And.intro (by first | exact Nat.le_of_ble_eq_true rfl | exact trivial | exact rfl | decide | omega | (simp [splice]; done) | (constructor <;> omega) | (simp [splice]; omega)) ?_; conv => whnf) | (refine optK_of (gridN (by omega) (by omega)) ?_; conv => whnf) | (refine optK_of (roofN (by omega) (by omega)) ?_; conv => whnf) | (refine optK_of (placeA (by omega)) ?_; conv => whnf) | (refine optK_of (placeB (by omega)) ?_; conv => whnf) | (refine optK_of (placeA' (by omega)) ?_; conv => whnf) | (refine optK_of (placeB' (by omega)) ?_; conv => whnf))
  rw [show IntKind.i64.wrap (1 + pkV xs 30 s0) = agMost xs from w64 (by omega) (by omega)]
  first | refine ⟨_, _, rfl, Sat.of_eq (hall) (by repeat (first | rfl | exact vfull (by first | (simp [splice]; done) | (simp [splice]; omega)) | exact rfull (by first | (simp [splice]; done) | (simp [splice]; omega)) | exact vroof0 (by simp) | exact vrefsplice (by simp) | exact vplace (by simp; done) (by omega) | exact vsplice (by simp) (by simp) | refine ceq ?_ ?_ | refine Eq.trans (vsplice (by first | (simp; done) | (simp; omega)) (by first | (simp; done) | (simp; omega))) ?_)), ?_⟩ | refine .inl ⟨_, _, rfl, Sat.of_eq (hall) (by repeat (first | rfl | exact vfull (by first | (simp [splice]; done) | (simp [splice]; omega)) | exact rfull (by first | (simp [splice]; done) | (simp [splice]; omega)) | exact vroof0 (by simp) | exact vrefsplice (by simp) | exact vplace (by simp; done) (by omega) | exact vsplice (by simp) (by simp) | refine ceq ?_ ?_ | refine Eq.trans (vsplice (by first | (simp; done) | (simp; omega)) (by first | (simp; done) | (simp; omega))) ?_)), ?_⟩
  conv => whnf
  repeat (first | (refine And.intro (by first | exact Nat.le_of_ble_eq_true rfl | exact trivial | exact rfl | decide | omega | (simp [splice]; done) | (constructor <;> omega) | (simp [splice]; omega)) ?_; conv => whnf) | (refine optK_of (gridN (by omega) (by omega)) ?_; conv => whnf) | (refine optK_of (roofN (by omega) (by omega)) ?_; conv => whnf) | (refine optK_of (placeA (by omega)) ?_; conv => whnf) | (refine optK_of (placeB (by omega)) ?_; conv => whnf) | (refine optK_of (placeA' (by omega)) ?_; conv => whnf) | (refine optK_of (placeB' (by omega)) ?_; conv => whnf))
  refine loop_rule (α := Nat) (fun i => [(0, .ptr (lentId 0) 0), (4, .ptr (4, 0, 0) 0), (5, .ptr (5, 0, 0) 0), (6, .v (.int .i64 (agMost xs))), (7, .slc true 2 (14, 0, 0) 0 ps.length), (8, .v (.int .i64 i))]) (fun i => [(lentId 0, srcD xs (F i).2), (lentId 1, roofD r), ((4, 0, 0), .v (.agg ⟨List.replicate 64 (.int .u8 0)⟩)), ((5, 0, 0), gridD (F i).1), ((14, 0, 0), .v (.agg ⟨placesC ps⟩))]) (fun i => i ≤ ps.length) (fun i => ps.length - i) (0) ?_ (sim_of (rn := [((4, 0, 0), (4, 0, 0)), ((5, 0, 0), (5, 0, 0)), ((14, 0, 0), (14, 0, 0))]) rfl ?_ ?_) ?_
  · first | omega | (dsimp only; omega) | ((repeat' apply And.intro) <;> omega) | (dsimp only; (repeat' apply And.intro) <;> omega) | trivial
  · ((repeat' (first | exact trivial | apply And.intro)) <;> (first | rfl | exact succ8 (by omega) | exact succ64 (by omega) | exact CapOk.fn (by assumption) _ _ | exact vintS (by omega) | exact vintS (by rw [w64 (by omega) (by omega)]; omega) | exact vintS (by rw [w8 (by omega) (by omega)]; omega) | exact vslcS (by omega) | exact vslcS (by simp)))
  · ((repeat' (first | exact trivial | apply And.intro)) <;> ((first | refine ⟨_, _, rfl, rfl, ?_⟩ ); first | rfl | (first | (rw [hz]; rfl) | (rw [hz]; exact vgrid0S (by simp)))))
  intro i hi
  have hFi := hat i
  conv => whnf
  repeat (first | (refine And.intro (by first | exact Nat.le_of_ble_eq_true rfl | exact trivial | exact rfl | decide | omega | (simp [splice]; done) | (constructor <;> omega) | (simp [splice]; omega)) ?_; conv => whnf) | (refine optK_of (gridN (by omega) (by omega)) ?_; conv => whnf) | (refine optK_of (roofN (by omega) (by omega)) ?_; conv => whnf) | (refine optK_of (placeA (by omega)) ?_; conv => whnf) | (refine optK_of (placeB (by omega)) ?_; conv => whnf) | (refine optK_of (placeA' (by omega)) ?_; conv => whnf) | (refine optK_of (placeB' (by omega)) ?_; conv => whnf))
  cases h : decide ((i : Int) < (ps.length : Int))
  · have hin : i = ps.length := by simp at h; omega
    subst hin
    conv => whnf
    repeat (first | (refine And.intro (by first | exact Nat.le_of_ble_eq_true rfl | exact trivial | exact rfl | decide | omega | (simp [splice]; done) | (constructor <;> omega) | (simp [splice]; omega)) ?_; conv => whnf) | (refine optK_of (gridN (by omega) (by omega)) ?_; conv => whnf) | (refine optK_of (roofN (by omega) (by omega)) ?_; conv => whnf) | (refine optK_of (placeA (by omega)) ?_; conv => whnf) | (refine optK_of (placeB (by omega)) ?_; conv => whnf) | (refine optK_of (placeA' (by omega)) ?_; conv => whnf) | (refine optK_of (placeB' (by omega)) ?_; conv => whnf))
    refine ⟨[], _, rfl, rfl, rfl, ?_, ?_, rfl⟩
    · (exact congrArg (fun l => D.v (.agg ⟨l⟩)) (copied (n := 64) (ys := grid (F ps.length).1) (by simp) (by simp)).symm)
    ((repeat' (first | exact trivial | apply And.intro)) <;> (refine ⟨_, rfl, ?_⟩; first | rfl | (rfl)))
  have hin : i < ps.length := by simpa using h
  have hqi := hdin i hin
  have hp := pkV_in hx (n := agMost xs) (by omega) (F i).2
  have e := hnx i
  conv => whnf
  repeat (first | (refine And.intro (by first | exact Nat.le_of_ble_eq_true rfl | exact trivial | exact rfl | decide | omega | (simp [splice]; done) | (constructor <;> omega) | (simp [splice]; omega)) ?_; conv => whnf) | (refine optK_of (gridN (by omega) (by omega)) ?_; conv => whnf) | (refine optK_of (roofN (by omega) (by omega)) ?_; conv => whnf) | (refine optK_of (placeA (by omega)) ?_; conv => whnf) | (refine optK_of (placeB (by omega)) ?_; conv => whnf) | (refine optK_of (placeA' (by omega)) ?_; conv => whnf) | (refine optK_of (placeB' (by omega)) ?_; conv => whnf))
  first | refine ⟨[(lentId 0)], _, _, _, _, _, _, _, _, rfl, rfl, rfl, rfl, (SatM.of_eq (pick_satM xs hx hl (agMost xs) (by omega) (F i).2 (by omega)) (by repeat (first | rfl | exact vfull (by first | (simp [splice]; done) | (simp [splice]; omega)) | exact rfull (by first | (simp [splice]; done) | (simp [splice]; omega)) | exact vroof0 (by simp) | exact vrefsplice (by simp) | exact vplace (by simp; done) (by omega) | exact vsplice (by simp) (by simp) | refine ceq ?_ ?_ | refine Eq.trans (vsplice (by first | (simp; done) | (simp; omega)) (by first | (simp; done) | (simp; omega))) ?_)) (by repeat (first | rfl | exact vfull (by first | (simp [splice]; done) | (simp [splice]; omega)) | exact rfull (by first | (simp [splice]; done) | (simp [splice]; omega)) | exact vroof0 (by simp) | exact vrefsplice (by simp) | exact vplace (by simp; done) (by omega) | exact vsplice (by simp) (by simp) | refine ceq ?_ ?_ | refine Eq.trans (vsplice (by first | (simp; done) | (simp; omega)) (by first | (simp; done) | (simp; omega))) ?_))), rfl, rfl, rfl, rfl, ?_⟩ | refine .inr ⟨[(lentId 0)], _, _, _, _, _, _, _, _, rfl, rfl, rfl, rfl, (SatM.of_eq (pick_satM xs hx hl (agMost xs) (by omega) (F i).2 (by omega)) (by repeat (first | rfl | exact vfull (by first | (simp [splice]; done) | (simp [splice]; omega)) | exact rfull (by first | (simp [splice]; done) | (simp [splice]; omega)) | exact vroof0 (by simp) | exact vrefsplice (by simp) | exact vplace (by simp; done) (by omega) | exact vsplice (by simp) (by simp) | refine ceq ?_ ?_ | refine Eq.trans (vsplice (by first | (simp; done) | (simp; omega)) (by first | (simp; done) | (simp; omega))) ?_)) (by repeat (first | rfl | exact vfull (by first | (simp [splice]; done) | (simp [splice]; omega)) | exact rfull (by first | (simp [splice]; done) | (simp [splice]; omega)) | exact vroof0 (by simp) | exact vrefsplice (by simp) | exact vplace (by simp; done) (by omega) | exact vsplice (by simp) (by simp) | refine ceq ?_ ?_ | refine Eq.trans (vsplice (by first | (simp; done) | (simp; omega)) (by first | (simp; done) | (simp; omega))) ?_))), rfl, rfl, rfl, rfl, ?_⟩ | refine ⟨[(lentId 0)], _, _, _, _, _, rfl, rfl, rfl, rfl, (SatM.of_eq (pick_satM xs hx hl (agMost xs) (by omega) (F i).2 (by omega)) (by repeat (first | rfl | exact vfull (by first | (simp [splice]; done) | (simp [splice]; omega)) | exact rfull (by first | (simp [splice]; done) | (simp [splice]; omega)) | exact vroof0 (by simp) | exact vrefsplice (by simp) | exact vplace (by simp; done) (by omega) | exact vsplice (by simp) (by simp) | refine ceq ?_ ?_ | refine Eq.trans (vsplice (by first | (simp; done) | (simp; omega)) (by first | (simp; done) | (simp; omega))) ?_)) (by repeat (first | rfl | exact vfull (by first | (simp [splice]; done) | (simp [splice]; omega)) | exact rfull (by first | (simp [splice]; done) | (simp [splice]; omega)) | exact vroof0 (by simp) | exact vrefsplice (by simp) | exact vplace (by simp; done) (by omega) | exact vsplice (by simp) (by simp) | refine ceq ?_ ?_ | refine Eq.trans (vsplice (by first | (simp; done) | (simp; omega)) (by first | (simp; done) | (simp; omega))) ?_))), rfl, rfl, ?_⟩
  conv => whnf
  repeat (first | (refine And.intro (by first | exact Nat.le_of_ble_eq_true rfl | exact trivial | exact rfl | decide | omega | (simp [splice]; done) | (constructor <;> omega) | (simp [splice]; omega)) ?_; conv => whnf) | (refine optK_of (gridN (by omega) (by omega)) ?_; conv => whnf) | (refine optK_of (roofN (by omega) (by omega)) ?_; conv => whnf) | (refine optK_of (placeA (by omega)) ?_; conv => whnf) | (refine optK_of (placeB (by omega)) ?_; conv => whnf) | (refine optK_of (placeA' (by omega)) ?_; conv => whnf) | (refine optK_of (placeB' (by omega)) ?_; conv => whnf))
  have setA := grid_set (t := (F i).1) (c := (nthP ps i).1) (k := (nthP ps i).2) (o := 0 + ((nthP ps i).1 : Int).toNat * 8 + ((nthP ps i).2 : Int).toNat * 1) (x := pkV xs (agMost xs) (F i).2) (by simp) hqi.1 hqi.2
  rw [wu8 (n := pkV xs (agMost xs) (F i).2) (by omega) (by omega)]
  refine ⟨i + 1, ?_, ?_, sim_of (rn := [((4, 0, 0), (4, 0, 0)), ((5, 0, 0), (5, 0, 0)), ((14, 0, 0), (14, 0, 0))]) rfl ?_ ?_⟩
  · (dsimp only; omega)
  · first | omega | (dsimp only; omega) | ((repeat' apply And.intro) <;> omega) | (dsimp only; (repeat' apply And.intro) <;> omega) | trivial
  · ((repeat' (first | exact trivial | apply And.intro)) <;> (first | rfl | exact succ8 (by omega) | exact succ64 (by omega) | exact CapOk.fn (by assumption) _ _ | exact vintS (by omega) | exact vintS (by rw [w64 (by omega) (by omega)]; omega) | exact vintS (by rw [w8 (by omega) (by omega)]; omega) | exact vslcS (by omega) | exact vslcS (by simp)))
  · ((repeat' (first | exact trivial | apply And.intro)) <;> ((first | refine ⟨_, _, rfl, rfl, ?_⟩ ); first | rfl | (first | (rw [e]; rfl) | (rw [e]; exact cset setA))))
theorem a2Ages_sat (xs : List Int) (hx : Bytes xs) (hl : xs.length ≤ 3000) (r : Roof) (hr : r.In) (hb : Rb r) (m : Bool) : Sat Try.prog 7 [u8D m xs, roofD r] (gridD (agR xs r).1) := by
  refine sat_of_wp hMix tOk Try.func7 rfl rfl Try.ntmps7 rfl rfl Try.results7 (by kernel_rfl) ?_
  conv => whnf
  repeat (first | (refine And.intro (by first | exact Nat.le_of_ble_eq_true rfl | exact trivial | exact rfl | decide | omega | (simp [splice]; done) | (constructor <;> omega) | (simp [splice]; omega)) ?_; conv => whnf) | (refine optK_of (gridN (by omega) (by omega)) ?_; conv => whnf) | (refine optK_of (roofN (by omega) (by omega)) ?_; conv => whnf) | (refine optK_of (placeA (by omega)) ?_; conv => whnf) | (refine optK_of (placeB (by omega)) ?_; conv => whnf) | (refine optK_of (placeA' (by omega)) ?_; conv => whnf) | (refine optK_of (placeB' (by omega)) ?_; conv => whnf))
  first | refine ⟨[], _, _, _, _, _, _, _, _, rfl, rfl, rfl, rfl, (SatM.of_eq (l00From_satM xs) (by repeat (first | rfl | exact vfull (by first | (simp [splice]; done) | (simp [splice]; omega)) | exact rfull (by first | (simp [splice]; done) | (simp [splice]; omega)) | exact vroof0 (by simp) | exact vrefsplice (by simp) | exact vplace (by simp; done) (by omega) | exact vsplice (by simp) (by simp) | refine ceq ?_ ?_ | refine Eq.trans (vsplice (by first | (simp; done) | (simp; omega)) (by first | (simp; done) | (simp; omega))) ?_)) (by repeat (first | rfl | exact vfull (by first | (simp [splice]; done) | (simp [splice]; omega)) | exact rfull (by first | (simp [splice]; done) | (simp [splice]; omega)) | exact vroof0 (by simp) | exact vrefsplice (by simp) | exact vplace (by simp; done) (by omega) | exact vsplice (by simp) (by simp) | refine ceq ?_ ?_ | refine Eq.trans (vsplice (by first | (simp; done) | (simp; omega)) (by first | (simp; done) | (simp; omega))) ?_))), rfl, rfl, rfl, rfl, ?_⟩ | refine .inr ⟨[], _, _, _, _, _, _, _, _, rfl, rfl, rfl, rfl, (SatM.of_eq (l00From_satM xs) (by repeat (first | rfl | exact vfull (by first | (simp [splice]; done) | (simp [splice]; omega)) | exact rfull (by first | (simp [splice]; done) | (simp [splice]; omega)) | exact vroof0 (by simp) | exact vrefsplice (by simp) | exact vplace (by simp; done) (by omega) | exact vsplice (by simp) (by simp) | refine ceq ?_ ?_ | refine Eq.trans (vsplice (by first | (simp; done) | (simp; omega)) (by first | (simp; done) | (simp; omega))) ?_)) (by repeat (first | rfl | exact vfull (by first | (simp [splice]; done) | (simp [splice]; omega)) | exact rfull (by first | (simp [splice]; done) | (simp [splice]; omega)) | exact vroof0 (by simp) | exact vrefsplice (by simp) | exact vplace (by simp; done) (by omega) | exact vsplice (by simp) (by simp) | refine ceq ?_ ?_ | refine Eq.trans (vsplice (by first | (simp; done) | (simp; omega)) (by first | (simp; done) | (simp; omega))) ?_))), rfl, rfl, rfl, rfl, ?_⟩ | refine ⟨[], _, _, _, _, _, rfl, rfl, rfl, rfl, (SatM.of_eq (l00From_satM xs) (by repeat (first | rfl | exact vfull (by first | (simp [splice]; done) | (simp [splice]; omega)) | exact rfull (by first | (simp [splice]; done) | (simp [splice]; omega)) | exact vroof0 (by simp) | exact vrefsplice (by simp) | exact vplace (by simp; done) (by omega) | exact vsplice (by simp) (by simp) | refine ceq ?_ ?_ | refine Eq.trans (vsplice (by first | (simp; done) | (simp; omega)) (by first | (simp; done) | (simp; omega))) ?_)) (by repeat (first | rfl | exact vfull (by first | (simp [splice]; done) | (simp [splice]; omega)) | exact rfull (by first | (simp [splice]; done) | (simp [splice]; omega)) | exact vroof0 (by simp) | exact vrefsplice (by simp) | exact vplace (by simp; done) (by omega) | exact vsplice (by simp) (by simp) | refine ceq ?_ ?_ | refine Eq.trans (vsplice (by first | (simp; done) | (simp; omega)) (by first | (simp; done) | (simp; omega))) ?_))), rfl, rfl, ?_⟩
  conv => whnf
  repeat (first | (refine And.intro (by first | exact Nat.le_of_ble_eq_true rfl | exact trivial | exact rfl | decide | omega | (simp [splice]; done) | (constructor <;> omega) | (simp [splice]; omega)) ?_; conv => whnf) | (refine optK_of (gridN (by omega) (by omega)) ?_; conv => whnf) | (refine optK_of (roofN (by omega) (by omega)) ?_; conv => whnf) | (refine optK_of (placeA (by omega)) ?_; conv => whnf) | (refine optK_of (placeB (by omega)) ?_; conv => whnf) | (refine optK_of (placeA' (by omega)) ?_; conv => whnf) | (refine optK_of (placeB' (by omega)) ?_; conv => whnf))
  first | refine ⟨[(6, 0, 0), (3, 0, 0)], _, _, _, _, _, _, _, _, rfl, rfl, rfl, rfl, (SatM.of_eq (l07Aged_satM xs hx hl r hr hb) (by repeat (first | rfl | exact vfull (by first | (simp [splice]; done) | (simp [splice]; omega)) | exact rfull (by first | (simp [splice]; done) | (simp [splice]; omega)) | exact vroof0 (by simp) | exact vrefsplice (by simp) | exact vplace (by simp; done) (by omega) | exact vsplice (by simp) (by simp) | refine ceq ?_ ?_ | refine Eq.trans (vsplice (by first | (simp; done) | (simp; omega)) (by first | (simp; done) | (simp; omega))) ?_)) (by repeat (first | rfl | exact vfull (by first | (simp [splice]; done) | (simp [splice]; omega)) | exact rfull (by first | (simp [splice]; done) | (simp [splice]; omega)) | exact vroof0 (by simp) | exact vrefsplice (by simp) | exact vplace (by simp; done) (by omega) | exact vsplice (by simp) (by simp) | refine ceq ?_ ?_ | refine Eq.trans (vsplice (by first | (simp; done) | (simp; omega)) (by first | (simp; done) | (simp; omega))) ?_))), rfl, rfl, rfl, rfl, ?_⟩ | refine .inr ⟨[(6, 0, 0), (3, 0, 0)], _, _, _, _, _, _, _, _, rfl, rfl, rfl, rfl, (SatM.of_eq (l07Aged_satM xs hx hl r hr hb) (by repeat (first | rfl | exact vfull (by first | (simp [splice]; done) | (simp [splice]; omega)) | exact rfull (by first | (simp [splice]; done) | (simp [splice]; omega)) | exact vroof0 (by simp) | exact vrefsplice (by simp) | exact vplace (by simp; done) (by omega) | exact vsplice (by simp) (by simp) | refine ceq ?_ ?_ | refine Eq.trans (vsplice (by first | (simp; done) | (simp; omega)) (by first | (simp; done) | (simp; omega))) ?_)) (by repeat (first | rfl | exact vfull (by first | (simp [splice]; done) | (simp [splice]; omega)) | exact rfull (by first | (simp [splice]; done) | (simp [splice]; omega)) | exact vroof0 (by simp) | exact vrefsplice (by simp) | exact vplace (by simp; done) (by omega) | exact vsplice (by simp) (by simp) | refine ceq ?_ ?_ | refine Eq.trans (vsplice (by first | (simp; done) | (simp; omega)) (by first | (simp; done) | (simp; omega))) ?_))), rfl, rfl, rfl, rfl, ?_⟩ | refine ⟨[(6, 0, 0), (3, 0, 0)], _, _, _, _, _, rfl, rfl, rfl, rfl, (SatM.of_eq (l07Aged_satM xs hx hl r hr hb) (by repeat (first | rfl | exact vfull (by first | (simp [splice]; done) | (simp [splice]; omega)) | exact rfull (by first | (simp [splice]; done) | (simp [splice]; omega)) | exact vroof0 (by simp) | exact vrefsplice (by simp) | exact vplace (by simp; done) (by omega) | exact vsplice (by simp) (by simp) | refine ceq ?_ ?_ | refine Eq.trans (vsplice (by first | (simp; done) | (simp; omega)) (by first | (simp; done) | (simp; omega))) ?_)) (by repeat (first | rfl | exact vfull (by first | (simp [splice]; done) | (simp [splice]; omega)) | exact rfull (by first | (simp [splice]; done) | (simp [splice]; omega)) | exact vroof0 (by simp) | exact vrefsplice (by simp) | exact vplace (by simp; done) (by omega) | exact vsplice (by simp) (by simp) | refine ceq ?_ ?_ | refine Eq.trans (vsplice (by first | (simp; done) | (simp; omega)) (by first | (simp; done) | (simp; omega))) ?_))), rfl, rfl, ?_⟩
  conv => whnf
  repeat (first | (refine And.intro (by first | exact Nat.le_of_ble_eq_true rfl | exact trivial | exact rfl | decide | omega | (simp [splice]; done) | (constructor <;> omega) | (simp [splice]; omega)) ?_; conv => whnf) | (refine optK_of (gridN (by omega) (by omega)) ?_; conv => whnf) | (refine optK_of (roofN (by omega) (by omega)) ?_; conv => whnf) | (refine optK_of (placeA (by omega)) ?_; conv => whnf) | (refine optK_of (placeB (by omega)) ?_; conv => whnf) | (refine optK_of (placeA' (by omega)) ?_; conv => whnf) | (refine optK_of (placeB' (by omega)) ?_; conv => whnf))
  first | refine ⟨rfl, _, rfl, ?_⟩ | refine ⟨_, rfl, ?_⟩
  skip
  exact (vsplice (n := 64) (xs := List.replicate 64 (.int .u8 0)) (ys := grid (agR xs r).1) (by simp) (by simp)).symm
end Go.Proofs.Ytecjkbgepbefcaa
