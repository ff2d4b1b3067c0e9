import Derived.Test.YtndlknhakdadjaaP1
/- Plain words: what a minute does with the water in a gutter. -/
set_option linter.unusedVariables false
set_option linter.unusedSimpArgs false
namespace Go.V
def leafB (g : Gut) (c : Nat) : Bool := IntKind.u32.wrap (BitVec.ofInt IntKind.u32.bits (g.lv.fdiv (2 ^ (min (c : Int).toNat IntKind.u32.bits))) &&& BitVec.ofInt IntKind.u32.bits 1).toNat == 1
def hasB (g : Gut) (c : Nat) : Bool := (List.range g.ps.length).any fun i => (px g.ps i).1 == (c : Int)
def idxN (n : Nat) (p : Nat → Bool) : Int := match (List.range n).find? p with | some i => (i : Int) | none => -1
theorem idxN_some {p : Nat → Bool} {n i : Nat} (hi : i < n) (h : p i = true) (hall : ∀ j, j < i → p j = false) : idxN n p = i := by
  unfold idxN; rw [find_some hi h hall]
theorem idxN_none {p : Nat → Bool} {n : Nat} (hall : ∀ j, j < n → p j = false) : idxN n p = -1 := by
  unfold idxN; rw [find_none hall]
theorem anyN_none {p : Nat → Bool} {n : Nat} (hall : ∀ j, j < n → p j = false) : (List.range n).any p = false := by
  rw [List.any_eq_false]; intro i hi; rw [hall i (by simpa using hi)]; simp
theorem anyN_some {p : Nat → Bool} {n i : Nat} (hi : i < n) (h : p i = true) : (List.range n).any p = true := by
  rw [List.any_eq_true]; exact ⟨i, by simpa using hi, h⟩
theorem idxN_any (n : Nat) (p : Nat → Bool) : decide (idxN n p ≥ 0) = (List.range n).any p := by
  cases h : (List.range n).any p
  · rw [idxN_none fun j hj => by
      rw [List.any_eq_false] at h
      have := h j (by simpa using hj)
      simpa using this]
    rfl
  · unfold idxN
    cases hf : (List.range n).find? p with
    | some i => simp
    | none =>
      rw [List.find?_eq_none] at hf
      rw [List.any_eq_true] at h
      obtain ⟨i, hi, hp⟩ := h
      exact absurd hp (hf i hi)
def lowL (g : Gut) (c : Nat) : Bool := decide (0 < c) && decide (g.h (c - 1) < g.h c)
def toP (g : Gut) (c : Nat) : Int :=
  if (leafB g c || hasB g c) = true then -1
  else if lowL g c = true then (if (c : Int) + 1 < g.n ∧ g.h (c + 1) < g.h (c - 1) then (c : Int) + 1 else (c : Int) - 1)
  else (if (c : Int) + 1 < g.n ∧ g.h (c + 1) < g.h c then (c : Int) + 1 else -1)
theorem toP_range {g : Gut} {c : Nat} (h : (c : Int) < g.n) : -1 ≤ toP g c ∧ toP g c < g.n := by
  unfold toP lowL
  split
  · omega
  · split
    · rename_i hl
      simp only [Bool.and_eq_true, decide_eq_true_eq] at hl
      split <;> omega
    · split <;> omega
def tgt (g : Gut) (c : Nat) : Nat := if toP g c < 0 then c else (toP g c).toNat
theorem tgt_lt {g : Gut} {c : Nat} (h : (c : Int) < g.n) : (tgt g c : Int) < g.n := by
  have := toP_range h
  unfold tgt; split <;> omega
def minI (a b : Int) : Int := if b < a then b else a
theorem minI_le (a b : Int) : minI a b ≤ a ∧ minI a b ≤ b := by unfold minI; split <;> omega
theorem minI_ge {a b : Int} (ha : 0 ≤ a) (hb : 0 ≤ b) : 0 ≤ minI a b := by unfold minI; split <;> omega
theorem minI_lt (a b : Int) : (if a < b then a else b) = minI a b := by unfold minI; split <;> split <;> omega
/-- Rain, then pipes, then what flows. -/
def wR (w : Nat → Int) (xs : List Int) (k : Nat) : Nat → Int := fun j => if j < k then w j + ix xs j else w j
def wP (g : Gut) (w : Nat → Int) : Nat → Nat → Int
  | 0 => w
  | i + 1 => putW (wP g w i) (px g.ps i).1.toNat (wP g w i (px g.ps i).1.toNat - minI (wP g w i (px g.ps i).1.toNat) (px g.ps i).2)
def tP (g : Gut) (w : Nat → Int) : Nat → Int
  | 0 => 0
  | i + 1 => tP g w i + minI (wP g w i (px g.ps i).1.toNat) (px g.ps i).2
def oK (g : Gut) (w : Nat → Int) : Nat → Nat → Int
  | 0 => fun _ => 0
  | k + 1 => putW (oK g w k) (tgt g k) (oK g w k (tgt g k) + w k)
def over1 (dp x : Int) : Int := if x - dp > 0 then x - dp else 0
def cut1 (dp x : Int) : Int := if x - dp > 0 then dp else x
def ovK (dp : Int) (o : Nat → Int) : Nat → Int
  | 0 => 0
  | k + 1 => ovK dp o k + over1 dp (o k)
def minF (g : Gut) (w : Nat → Int) (xs : List Int) : Nat → Int := wP g (wR w xs g.n.toNat) g.ps.length
def minW (g : Gut) (w : Nat → Int) (xs : List Int) : Nat → Int := fun j => cut1 g.dp (oK g (minF g w xs) g.n.toNat j)
def minT (g : Gut) (w : Nat → Int) (xs : List Int) : Int := tP g (wR w xs g.n.toNat) g.ps.length
def minO (g : Gut) (w : Nat → Int) (xs : List Int) : Int := ovK g.dp (oK g (minF g w xs) g.n.toNat) 17
structure W17 (b : Int) (w : Nat → Int) : Prop where
  t : ∀ k, k < 17 → 0 ≤ w k ∧ w k ≤ b
theorem wR_in {w : Nat → Int} (hw : W17 1000 w) {xs : List Int} (hx : ∀ i, i < xs.length → 0 ≤ ix xs i ∧ ix xs i ≤ 1000) {k : Nat} (hk : k ≤ xs.length) : W17 2000 (wR w xs k) := ⟨fun j hj => by
  have := hw.t j hj
  unfold wR
  split
  · have := hx j (by omega); omega
  · omega⟩
theorem wR_put {w : Nat → Int} {xs : List Int} {k : Nat} : putW (wR w xs k) k (w k + ix xs k) = wR w xs (k + 1) := by
  funext j
  unfold putW wR
  by_cases h : j = k
  · subst h; simp
  · rw [if_neg h]
    by_cases h2 : j < k
    · rw [if_pos h2, if_pos (by omega)]
    · rw [if_neg h2, if_neg (by omega)]
theorem wR_at {w : Nat → Int} {xs : List Int} {k : Nat} : wR w xs k k = w k := by simp [wR]
theorem wR_zero {w : Nat → Int} {xs : List Int} : wR w xs 0 = w := by funext j; simp [wR]
theorem wP_in {g : Gut} (hg : g.Ok) {w : Nat → Int} (hw : W17 2000 w) : ∀ i, i ≤ g.ps.length → W17 2000 (wP g w i)
  | 0, _ => hw
  | i + 1, hi => ⟨fun j hj => by
    have ih := wP_in hg hw i (by omega)
    have hp := hg.ps i (by omega)
    have hn := hg.n
    have h1 := ih.t (px g.ps i).1.toNat (by omega)
    have h2 := minI_le (wP g w i (px g.ps i).1.toNat) (px g.ps i).2
    have h3 := minI_ge h1.1 hp.2.1
    simp only [wP]
    unfold putW
    split
    · omega
    · exact ih.t j hj⟩
theorem tP_in {g : Gut} (hg : g.Ok) {w : Nat → Int} (hw : W17 2000 w) : ∀ i, i ≤ g.ps.length → 0 ≤ tP g w i ∧ tP g w i ≤ 2000 * i
  | 0, _ => by simp [tP]
  | i + 1, hi => by
    have ih := tP_in hg hw i (by omega)
    have hp := hg.ps i (by omega)
    have hn := hg.n
    have h1 := (wP_in hg hw i (by omega)).t (px g.ps i).1.toNat (by omega)
    have h2 := minI_le (wP g w i (px g.ps i).1.toNat) (px g.ps i).2
    have h3 := minI_ge h1.1 hp.2.1
    simp only [tP]
    push_cast
    omega
theorem oK_in {g : Gut} (hg : g.Ok) {w : Nat → Int} (hw : W17 2000 w) : ∀ k : Nat, (k : Int) ≤ g.n → W17 (2000 * k) (oK g w k)
  | 0, _ => ⟨fun j hj => by simp [oK]⟩
  | k + 1, hk => ⟨fun j hj => by
    have ih := oK_in hg hw k (by omega)
    have hn := hg.n
    have hwk := hw.t k (by omega)
    have ht := tgt_lt (g := g) (c := k) (by omega)
    have h1 := ih.t (tgt g k) (by omega)
    have h2 := ih.t j hj
    simp only [oK]
    unfold putW
    split
    · push_cast; omega
    · push_cast; omega⟩
theorem oK_zero {g : Gut} {w : Nat → Int} : ∀ k : Nat, (k : Int) ≤ g.n → ∀ j : Nat, g.n ≤ (j : Int) → oK g w k j = 0
  | 0, _, j, hj => rfl
  | k + 1, hk, j, hj => by
    have ht := tgt_lt (g := g) (c := k) (by omega)
    simp only [oK]
    unfold putW
    rw [if_neg (by omega)]
    exact oK_zero k (by omega) j hj
theorem cut1_in {dp x : Int} (hd : 0 ≤ dp) (hx : 0 ≤ x) : 0 ≤ cut1 dp x ∧ cut1 dp x ≤ dp := by unfold cut1; split <;> omega
theorem over1_in {dp x : Int} (hd : 0 ≤ dp) (hx : 0 ≤ x) : 0 ≤ over1 dp x ∧ over1 dp x ≤ x := by unfold over1; split <;> omega
theorem ovK_in {dp b : Int} (hd : 0 ≤ dp) (hb : 0 ≤ b) {o : Nat → Int} (ho : W17 b o) : ∀ k, k ≤ 17 → 0 ≤ ovK dp o k ∧ ovK dp o k ≤ b * k
  | 0, _ => by simp [ovK]
  | k + 1, hk => by
    have ih := ovK_in hd hb ho k (by omega)
    have h1 := ho.t k (by omega)
    have h2 := over1_in (dp := dp) hd h1.1
    simp only [ovK]
    have : b * ((k + 1 : Nat) : Int) = b * k + b := by rw [Int.natCast_add, Int.mul_add]; simp
    omega
theorem ovK_same {dp : Int} (hd : 0 ≤ dp) {o : Nat → Int} {n : Nat} (hz : ∀ j, n ≤ j → o j = 0) : ∀ k, n ≤ k → ovK dp o k = ovK dp o n
  | 0, h => by rw [show n = 0 by omega]
  | k + 1, h => by
    by_cases hk : n = k + 1
    · rw [hk]
    · simp only [ovK]
      rw [ovK_same hd hz k (by omega), hz k (by omega), show over1 dp 0 = 0 by unfold over1; split <;> omega]
      omega
/-- Rain for each cell. -/
def rainB (g : Gut) (xs : List Int) : Bool := ((xs.length : Int) == g.n) && (List.range xs.length).all fun i => deepB (ix xs i)
structure RainOk (g : Gut) (xs : List Int) : Prop where
  len : (xs.length : Int) = g.n
  t : ∀ i, i < xs.length → 0 ≤ ix xs i ∧ ix xs i ≤ 1000
theorem rainB_ok {g : Gut} {xs : List Int} (h : rainB g xs = true) : RainOk g xs := by
  simp only [rainB, Bool.and_eq_true, beq_iff_eq] at h
  refine ⟨h.1, fun i hi => ?_⟩
  have := allN_iff.1 h.2 i hi
  simpa [deepB] using this
theorem minF_in {g : Gut} (hg : g.Ok) {w : Nat → Int} (hw : W17 1000 w) {xs : List Int} (hx : RainOk g xs) : W17 2000 (minF g w xs) := by
  have := hx.len
  exact wP_in hg (wR_in hw hx.t (by omega)) _ (Nat.le_refl _)
theorem minW_in {g : Gut} (hg : g.Ok) {w : Nat → Int} (hw : W17 1000 w) {xs : List Int} (hx : RainOk g xs) : W17 1000 (minW g w xs) := ⟨fun k hk => by
  have hn := hg.n
  have hd := hg.dp
  have h1 := (oK_in hg (minF_in hg hw hx) g.n.toNat (by omega)).t k hk
  have := cut1_in hd.1 h1.1
  unfold minW
  omega⟩
theorem minT_in {g : Gut} (hg : g.Ok) {w : Nat → Int} (hw : W17 1000 w) {xs : List Int} (hx : RainOk g xs) : 0 ≤ minT g w xs ∧ minT g w xs ≤ 8000 := by
  have h0 := hx.len
  have h1 := hg.len
  have := tP_in hg (wR_in hw hx.t (k := g.n.toNat) (by omega)) _ (Nat.le_refl _)
  unfold minT
  omega
theorem minO_in {g : Gut} (hg : g.Ok) {w : Nat → Int} (hw : W17 1000 w) {xs : List Int} (hx : RainOk g xs) : 0 ≤ minO g w xs ∧ minO g w xs ≤ 578000 := by
  have hn := hg.n
  have h1 := oK_in hg (minF_in hg hw hx) g.n.toNat (by omega)
  have h2 : W17 34000 (oK g (minF g w xs) g.n.toNat) := ⟨fun k hk => by have := h1.t k hk; omega⟩
  have := ovK_in hg.dp.1 (by omega) h2 17 (by omega)
  unfold minO
  omega
/-- Behind several minutes. -/
def wM (g : Gut) (w : Nat → Int) (xs : List Int) : Nat → Nat → Int
  | 0 => w
  | m + 1 => minW g (wM g w xs m) xs
def tM (g : Gut) (w : Nat → Int) (xs : List Int) : Nat → Int
  | 0 => 0
  | m + 1 => tM g w xs m + minT g (wM g w xs m) xs
def oM (g : Gut) (w : Nat → Int) (xs : List Int) : Nat → Int
  | 0 => 0
  | m + 1 => oM g w xs m + minO g (wM g w xs m) xs
theorem wM_in {g : Gut} (hg : g.Ok) {w : Nat → Int} (hw : W17 1000 w) {xs : List Int} (hx : RainOk g xs) : ∀ m, W17 1000 (wM g w xs m)
  | 0 => hw
  | m + 1 => minW_in hg (wM_in hg hw hx m) hx
theorem tM_in {g : Gut} (hg : g.Ok) {w : Nat → Int} (hw : W17 1000 w) {xs : List Int} (hx : RainOk g xs) : ∀ m : Nat, 0 ≤ tM g w xs m ∧ tM g w xs m ≤ 8000 * m
  | 0 => by simp [tM]
  | m + 1 => by
    have ih := tM_in hg hw hx m
    have := minT_in hg (wM_in hg hw hx m) hx
    simp only [tM]
    push_cast
    omega
theorem oM_in {g : Gut} (hg : g.Ok) {w : Nat → Int} (hw : W17 1000 w) {xs : List Int} (hx : RainOk g xs) : ∀ m : Nat, 0 ≤ oM g w xs m ∧ oM g w xs m ≤ 578000 * m
  | 0 => by simp [oM]
  | m + 1 => by
    have ih := oM_in hg hw hx m
    have := minO_in hg (wM_in hg hw hx m) hx
    simp only [oM]
    push_cast
    omega
def upL (n : Nat) : List Int := (List.range n).map fun i => Int.ofNat i
@[simp] theorem upL_len (n : Nat) : (upL n).length = n := by simp [upL]
theorem upL_next (n : Nat) : upL (n + 1) = upL n ++ [(n : Int)] := by simp [upL, List.range_succ]
theorem upL_ix {n i : Nat} (h : i < n) : ix (upL n) i = (i : Int) := by
  unfold ix upL
  rw [List.getD_eq_getElem?_getD]
  simp [h]
theorem upA {n i : Nat} (h : i < n) : nth (intsC (upL n)) (0 + (i : Int).toNat * 1) = some (.int .i64 (i : Int)) := by
  rw [intA (by simpa using h), upL_ix h]
end Go.V
