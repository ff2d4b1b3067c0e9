import Derived.Test.YtecjkbgepbefcaaP3
set_option linter.unusedVariables false
set_option linter.unusedSimpArgs false
/- Plain words: what holds of years, all together. -/
set_option linter.unusedVariables false
set_option linter.unusedSimpArgs false
namespace Go.V
/-- What the law on years needs of its roof, ages and numbers. -/
structure YIn (r : Roof) (a : Nat → Nat → Int) (life years : Int) : Prop where
  rin : r.In
  ain : AgesIn a
  rok : okR r = true
  aok : okA r a = true
  lf : 3 ≤ life ∧ life ≤ 42
  yr : 0 ≤ years ∧ years ≤ 119
section
variable {r : Roof} {a : Nat → Nat → Int} {life years : Int} (h : YIn r a life years)
include h
theorem YIn.b : Rb r := okR_bounds h.rok
theorem YIn.lifeB : lifeOk life = true := by have := h.lf; unfold lifeOk; simp; omega
theorem YIn.ask : askC r a (lifeOk life) = 0 := by unfold askC; rw [if_pos h.aok, if_pos h.lifeB]
theorem YIn.z : brkK r a life years = 0 := by
  have := h.yr
  unfold brkK askC
  rw [if_pos h.aok, h.lifeB, if_pos]
  unfold yearsOk; simp; omega
theorem YIn.m : 0 ≤ ageP a (oldP r a) ∧ ageP a (oldP r a) ≤ 100 := (brk_facts h.ain h.z).2.1
theorem YIn.old : oldV r a = .tup [plD (oldP r a), .v (.int .i64 (ageP a (oldP r a))), .v (.int .i64 0)] := by unfold oldV; rw [if_pos h.aok]
theorem YIn.too : tooL r a life = oldL r a life 0 := by unfold tooL; rw [if_pos h.ask]
theorem YIn.vk : visK r a life years = if ageP a (oldP r a) > life then 6 else 0 := by unfold visK; rw [if_pos h.z]
theorem YIn.vno (hm : ageP a (oldP r a) > life) : visX r a life years = [] ∧ repX r a life years = [] := by
  have hk : ¬ visK r a life years = 0 := by rw [h.vk, if_pos hm]; omega
  exact ⟨by unfold visX; rw [if_neg hk], by unfold repX; rw [if_neg hk]⟩
theorem YIn.vyes (hm : ¬ ageP a (oldP r a) > life) : visX r a life years = visL life years 400 (life - ageP a (oldP r a)) := by
  have hk : visK r a life years = 0 := by rw [h.vk, if_neg hm]
  unfold visX; rw [if_pos hk]
theorem YIn.vlen : (visX r a life years).length ≤ 119 := by
  have h1 := h.lf; have h2 := h.yr; have h3 := h.m
  by_cases hm : ageP a (oldP r a) > life
  · rw [(h.vno hm).1]; simp
  · rw [h.vyes hm]
    have := visL_few (life := life) (years := years) (by omega) 400 (life - ageP a (oldP r a))
    omega
theorem YIn.less (hm : ¬ ageP a (oldP r a) > life) {k : Nat} (hk : k < (visX r a life years).length) :
    chkK r a life years ((visX r a life years).eraseIdx k) = 0 ∧ chkB r a life years ((visX r a life years).eraseIdx k) = false := by
  have h1 := h.lf; have h4 := h.vlen
  have hkk : chkK r a life years ((visX r a life years).eraseIdx k) = 0 := by
    unfold chkK
    rw [if_pos h.z, if_neg]
    have := List.length_eraseIdx_le (visX r a life years) k
    omega
  refine ⟨hkk, ?_⟩
  unfold chkB
  rw [if_pos hkk]
  rw [h.vyes hm] at hk ⊢
  have := chk_erase (life := life) (years := years) (by omega) 400 (life - ageP a (oldP r a)) (-1) k hk
  rw [show life - ageP a (oldP r a) - life = -ageP a (oldP r a) by omega] at this
  exact this
theorem YIn.late (hm : ¬ ageP a (oldP r a) > life) {k : Nat} (hk : k < (visX r a life years).length) :
    chkK r a life years ((visX r a life years).set k (ix (visX r a life years) k + 1)) = 0 ∧ chkB r a life years ((visX r a life years).set k (ix (visX r a life years) k + 1)) = false := by
  have h1 := h.lf; have h4 := h.vlen
  have hkk : chkK r a life years ((visX r a life years).set k (ix (visX r a life years) k + 1)) = 0 := by
    unfold chkK
    rw [if_pos h.z, if_neg (by simp; omega)]
  refine ⟨hkk, ?_⟩
  unfold chkB
  rw [if_pos hkk]
  rw [h.vyes hm] at hk ⊢
  have := chk_late (life := life) (years := years) (by omega) 400 (life - ageP a (oldP r a)) (-1) k hk
  rw [show life - ageP a (oldP r a) - life = -ageP a (oldP r a) by omega] at this
  exact this
theorem YIn.rep (hm : ¬ ageP a (oldP r a) > life) {k : Nat} (hk : k < (visX r a life years).length) :
    1 ≤ ix (repX r a life years) k ∧ ix (repX r a life years) k ≤ (gridP r.w.toNat r.h.toNat).length := by
  have h1 := h.lf
  have hv : visK r a life years = 0 := by rw [h.vk, if_neg hm]
  rw [h.vyes hm] at hk
  unfold repX
  rw [if_pos hv]
  obtain ⟨o, ho, hoe⟩ := List.getElem_of_mem (oldP_mem2 h.b a)
  have := rep_range (life := life) (years := years) (v0 := life - ageP a (oldP r a)) (f := 400) (b0 := (gridP r.w.toNat r.h.toNat).map (negA a)) (o := o) (by omega) (by simpa using ho) (by
    unfold ix
    rw [List.getD_eq_getElem?_getD, List.getElem?_map]
    simp only [List.getElem?_eq_getElem ho, Option.map_some, Option.getD_some, hoe]
    unfold negA ageP; omega) hk
  simpa using this
theorem YIn.lat : latK r a life = if ageP a (oldP r a) + life > 100 then 3 else 0 := by
  have h1 := h.lf
  unfold latK
  have : askC r a (ageOk0 life) = 0 := by
    unfold askC
    rw [if_pos h.aok, if_pos]
    unfold ageOk0; simp; omega
  rw [if_pos this]
theorem YIn.lat2 (hm : ageP a (oldP r a) + life ≤ 100) : AgesIn (latG r a life) ∧ okA r (latG r a life) = true ∧ (∀ q ∈ gridP r.w.toNat r.h.toNat, latG r a life q.1 q.2 = a q.1 q.2 + life) := by
  have h1 := h.lf
  have hk : latK r a life = 0 := by rw [h.lat, if_neg (by omega)]
  have hb := h.b
  have hin : AgesIn (latG r a life) := by
    unfold latG
    rw [if_pos hk]
    refine addP_in h.ain (by omega) fun j hj => ?_
    have := oldP_max hb a hj
    omega
  have hval : ∀ q ∈ gridP r.w.toNat r.h.toNat, latG r a life q.1 q.2 = a q.1 q.2 + life := by
    intro q hq
    have hq' := grid_mem.1 hq
    unfold latG
    rw [if_pos hk]
    unfold addP
    rw [if_pos]
    refine ⟨hq'.2, ?_⟩
    have : (q.1 + 1) * r.w.toNat ≤ r.h.toNat * r.w.toNat := Nat.mul_le_mul_right _ hq'.1
    rw [Nat.succ_mul] at this
    omega
  refine ⟨hin, ?_, hval⟩
  unfold okA
  rw [h.rok, Bool.true_and]
  refine all8_true fun c hc k hk' => ?_
  have hA := h.aok
  unfold okA at hA
  rw [h.rok, Bool.true_and] at hA
  have h2 := all8_iff.1 hA c hc k hk'
  unfold ageOk inR at h2 ⊢
  by_cases hq : (c : Int) < r.h ∧ (k : Int) < r.w
  · have hg : (c, k) ∈ gridP r.w.toNat r.h.toNat := grid_mem.2 ⟨by dsimp only; omega, by dsimp only; omega⟩
    have h3 := hval _ hg
    have h4 := oldP_ge hb a hg
    dsimp only at h3 h4
    rw [h3]
    simp [hq]; omega
  · have h5 : latG r a life c k = a c k := by
      unfold latG
      rw [if_pos hk]
      unfold addP
      rw [if_neg]
      rintro ⟨hk2, hc2⟩
      apply hq
      refine ⟨?_, by omega⟩
      apply Classical.byContradiction
      intro hn
      have hge : r.h.toNat ≤ c := by omega
      have : r.h.toNat * r.w.toNat ≤ c * r.w.toNat := Nat.mul_le_mul_right _ hge
      omega
    rw [h5]; exact h2
theorem YIn.later (hm : ageP a (oldP r a) + life ≤ 100) : (0 < (oldL r (latG r a life) life 0).length ↔ ageP a (oldP r a) ≠ 0) := by
  obtain ⟨h1, h2, h3⟩ := h.lat2 hm
  have hb := h.b
  have hM : ageP (latG r a life) (oldP r (latG r a life)) = ageP a (oldP r a) + life := by
    have e1 := h3 _ (oldP_mem2 hb (latG r a life))
    have e2 := h3 _ (oldP_mem2 hb a)
    have g1 := oldP_ge hb a (oldP_mem2 hb (latG r a life))
    have g2 := oldP_ge hb (latG r a life) (oldP_mem2 hb a)
    unfold ageP at *
    omega
  rw [oldL_pos hb h1, hM]
  have := h.m
  omega
theorem YIn.wrap {q : Pl} (hq : q ∈ gridP r.w.toNat r.h.toNat) : IntKind.i64.wrap (a q.1 q.2 + years) = a q.1 q.2 + years := by
  have h1 := oldP_ge h.b a hq
  have h2 := h.m; have h3 := h.yr; have h4 := h.ain.t q.1 q.2
  exact w64 (by omega) (by omega)
theorem YIn.kind {q : Pl} (hq : q ∈ gridP r.w.toNat r.h.toNat) : (brkR r a life years).t q.1 q.2 = if a q.1 q.2 + years > life then 3 else r.t q.1 q.2 := by
  have hq' := grid_mem.1 hq
  rw [broken_t h.z hq'.1 hq'.2]
  unfold oldT
  rw [h.wrap hq]
  by_cases hc : a q.1 q.2 + years > life <;> simp [hc]
theorem YIn.has {q : Pl} (hq : q ∈ gridP r.w.toNat r.h.toNat) : ((oldL r a life 0).any fun p => decide (p = q)) = decide (a q.1 q.2 > life) := by
  have hq' := grid_mem.1 hq
  have h1 := oldP_ge h.b a hq
  have h2 := h.m; have h4 := h.ain.t q.1 q.2
  have hw : IntKind.i64.wrap (a q.1 q.2 + 0) = a q.1 q.2 := by rw [Int.add_zero]; exact w64 (by omega) (by omega)
  rw [Bool.eq_iff_iff, List.any_eq_true, decide_eq_true_iff]
  constructor
  · rintro ⟨p, hp, hpq⟩
    have : p = q := by simpa using hpq
    subst this
    have := (allP_mem.1 hp).2
    unfold oldT at this
    rw [hw] at this
    simpa using this
  · intro hgt
    refine ⟨q, allP_mem.2 ⟨hq', ?_⟩, by simp⟩
    unfold oldT
    rw [hw]
    simpa using hgt
/-- The oldest tile is the first of the oldest ones. -/
theorem YIn.first {q : Pl} (hq : q ∈ gridP r.w.toNat r.h.toNat) (he : a q.1 q.2 = ageP a (oldP r a)) : ¬ (q.1 < (oldP r a).1 ∨ (q.1 = (oldP r a).1 ∧ q.2 < (oldP r a).2)) := by
  have hb := h.b
  have hs := gridP_size hb
  have hl := gridP_len r.w.toNat r.h.toNat
  obtain ⟨j, h1, h2, h3⟩ := bestL_first a (gridP r.w.toNat r.h.toNat) ((gridP r.w.toNat r.h.toNat).length - 1) (by omega)
  obtain ⟨i, hi, hqi⟩ := List.getElem_of_mem hq
  have hni : nthP (gridP r.w.toNat r.h.toNat) i = q := by unfold nthP; rw [List.getD_eq_getElem?_getD]; simp [hi, hqi]
  have hij : j ≤ i := by
    rcases Nat.lt_or_ge i j with hlt | hge
    · have := h3 i hlt
      rw [hni] at this
      change a q.1 q.2 < ageP a (oldP r a) at this
      omega
    · exact hge
  have e1 : oldP r a = (j / r.w.toNat, j % r.w.toNat) := by
    show bestL a _ _ = _
    rw [h2, gridP_nth (by omega)]
  rw [gridP_nth (by omega)] at hni
  rw [e1, ← hni]
  dsimp only
  have hdiv : j / r.w.toNat ≤ i / r.w.toNat := Nat.div_le_div_right hij
  rintro (hlt | ⟨heq, hlt⟩)
  · omega
  · have a1 := Nat.div_add_mod i r.w.toNat
    have a2 := Nat.div_add_mod j r.w.toNat
    rw [heq] at a1
    omega
end
end Go.V
/- The law on years. -/
set_option linter.unusedVariables false
set_option linter.unusedSimpArgs false
namespace Go.V
theorem tds {xs ys : List Value} {n : Nat} (hx : xs.length = ys.length) (hy : ys.length = n) : ((splice xs 0 ys).drop 0).take n = ys := by rw [splice_all hx, take_drop0 hy]
end Go.V
namespace Go.Proofs.Ytecjkbgepbefcaa
open Go.V
end Go.Proofs.Ytecjkbgepbefcaa
/- Plain law: columns, pails, times until a pail is full; what a whole tile saves; tiles made whole one by one. -/
set_option linter.unusedVariables false
set_option linter.unusedSimpArgs false
namespace Go.V
theorem smT_add (p q : Nat → Int) : ∀ n, smT (fun i => p i + q i) n = smT p n + smT q n
  | 0 => rfl
  | n + 1 => by simp only [smT]; rw [smT_add p q n]; omega
theorem smT_swap (f : Nat → Nat → Int) (m : Nat) : ∀ n, smT (fun i => smT (f i) m) n = smT (fun c => smT (fun i => f i c) n) m
  | 0 => by simp only [smT]; exact (smT_zero (m := m) (fun _ _ => rfl) m (Nat.le_refl _)).symm
  | n + 1 => by
    simp only [smT]
    rw [smT_swap f m n, ← smT_add]
theorem smT_le {p q : Nat → Int} : ∀ {n : Nat}, (∀ i, i < n → p i ≤ q i) → smT p n ≤ smT q n
  | 0, _ => Int.le_refl _
  | n + 1, h => by
    have := smT_le (p := p) (q := q) (n := n) fun i hi => h i (by omega)
    have := h n (by omega)
    simp only [smT]; omega
theorem smT_mul (p : Nat → Int) (s : Int) : ∀ n, smT (fun i => p i * s) n = smT p n * s
  | 0 => by simp [smT]
  | n + 1 => by simp only [smT]; rw [smT_mul p s n, Int.add_mul]
theorem smT_nn {p : Nat → Int} : ∀ {n : Nat}, (∀ i, i < n → 0 ≤ p i) → 0 ≤ smT p n
  | 0, _ => Int.le_refl _
  | n + 1, h => by
    have := smT_nn (p := p) (n := n) fun i hi => h i (by omega)
    have := h n (by omega)
    simp only [smT]; omega
theorem smT_nil {p : Nat → Int} : ∀ {n : Nat}, (∀ i, i < n → 0 ≤ p i) → smT p n = 0 → ∀ i, i < n → p i = 0
  | 0, _, _, i, hi => by omega
  | n + 1, h, h0, i, hi => by
    have h1 := smT_nn (p := p) (n := n) fun i hi => h i (by omega)
    have h2 := h n (by omega)
    simp only [smT] at h0
    by_cases e : i = n
    · subst e; omega
    · exact smT_nil (n := n) (fun i hi => h i (by omega)) (by omega) i (by omega)
/-- What drips in a cell. -/
def clI (r : Roof) (w : Nat → Int) (c : Nat) : Int := smT (fun i => dR r w i c) 8
def cN (r : Roof) : Nat := (2 * r.w + 1).toNat
theorem clI_in (r : Roof) {w : Nat → Int} (hw : ∀ c, c < 17 → 0 ≤ w c ∧ w c ≤ 1000) {c : Nat} (hc : c < 17) : 0 ≤ clI r w c ∧ clI r w c ≤ 8000 := by
  have := smT_in (p := fun i => dR r w i c) (b := 1000) (m := 8) (fun i _ => dR_in r hw hc) 8 (Nat.le_refl _)
  unfold clI; omega
theorem dsI_cl (r : Roof) (hb : (1 ≤ r.w ∧ r.w ≤ 8)) (w : Nat → Int) : dsI r w = smT (clI r w) (cN r) := by
  unfold dsI totS
  rw [smT_swap]
  have h : ∀ c, cN r ≤ c → clI r w c = 0 := fun c hc => smT_zero (m := 8) (fun i _ => by unfold dR; rw [if_neg (by unfold onR; unfold cN at hc; omega)]) 8 (Nat.le_refl _)
  have := smT_more (p := clI r w) (n := cN r) h (17 - cN r)
  rw [show cN r + (17 - cN r) = 17 by unfold cN; omega] at this
  exact this
def upI (n s : Int) : Int := (n + s - 1).tdiv s
theorem upI_eq {n s : Int} (hn : 0 ≤ n) (hs : 1 ≤ s) : upI n s = (n + s - 1) / s := Int.tdiv_eq_ediv_of_nonneg (by omega)
theorem upI_facts {n s : Int} (hn : 0 ≤ n) (hs : 1 ≤ s) : n ≤ upI n s * s ∧ (upI n s - 1) * s < n ∧ 0 ≤ upI n s := by
  rw [upI_eq hn hs]
  have h1 := Int.emod_add_mul_ediv (n + s - 1) s
  have h2 := Int.emod_nonneg (n + s - 1) (show s ≠ 0 by omega)
  have h3 := Int.emod_lt_of_pos (n + s - 1) (show 0 < s by omega)
  have h4 : 0 ≤ (n + s - 1) / s := Int.ediv_nonneg (by omega) (by omega)
  have h5 : ((n + s - 1) / s - 1) * s = (n + s - 1) / s * s - s := by rw [Int.sub_mul, Int.one_mul]
  rw [Int.mul_comm] at h1
  refine ⟨by omega, by omega, h4⟩
theorem upI_zero {n s : Int} (hn : 0 ≤ n) (hs : 1 ≤ s) : upI n s = 0 ↔ n = 0 := by
  obtain ⟨h1, h2, h3⟩ := upI_facts hn hs
  constructor
  · intro h; rw [h] at h1; omega
  · intro h
    subst h
    by_cases h4 : 0 < upI 0 s
    · exfalso
      have : 0 ≤ (upI 0 s - 1) * s := Int.mul_nonneg (by omega) (by omega)
      omega
    · omega
theorem upI_le {n s : Int} (hn : 0 ≤ n) (hs : 1 ≤ s) : upI n s ≤ n := by
  obtain ⟨h1, h2, h3⟩ := upI_facts hn hs
  by_cases h4 : n < upI n s
  · exfalso
    have : n * 1 ≤ (upI n s - 1) * s := Int.mul_le_mul (by omega) hs (by omega) (by omega)
    omega
  · omega
/-- How many pails. -/
def plI (r : Roof) (w : Nat → Int) (s : Int) : Int := smT (fun c => upI (clI r w c) s) (cN r)
theorem cN_le {r : Roof} (hb : (1 ≤ r.w ∧ r.w ≤ 8)) : 3 ≤ cN r ∧ cN r ≤ 17 := by unfold cN; omega
theorem plI_facts {r : Roof} (hb : (1 ≤ r.w ∧ r.w ≤ 8)) {w : Nat → Int} (hw : ∀ c, c < 17 → 0 ≤ w c ∧ w c ≤ 1000) {s : Int} (hs : 1 ≤ s) :
    dsI r w ≤ plI r w s * s ∧ (plI r w s = 0 ↔ dsI r w = 0) ∧ 0 ≤ plI r w s ∧ plI r w s ≤ 136000 := by
  have hc := cN_le hb
  have hin := fun c (h : c < cN r) => clI_in r hw (c := c) (by omega)
  have hnn : 0 ≤ plI r w s := smT_nn fun c h => (upI_facts (hin c h).1 hs).2.2
  refine ⟨?_, ?_, hnn, ?_⟩
  · rw [dsI_cl r hb]
    unfold plI
    rw [← smT_mul]
    exact smT_le fun c h => (upI_facts (hin c h).1 hs).1
  · rw [dsI_cl r hb]
    constructor
    · intro h
      have := smT_nil (fun c h => (upI_facts (hin c h).1 hs).2.2) h
      exact smT_zero (m := cN r) (fun c hcc => (upI_zero (hin c hcc).1 hs).1 (this c hcc)) _ (Nat.le_refl _)
    · intro h
      have := smT_nil (fun c h => (hin c h).1) h
      exact smT_zero (m := cN r) (fun c hcc => (upI_zero (hin c hcc).1 hs).2 (this c hcc)) _ (Nat.le_refl _)
  · have h1 : plI r w s ≤ smT (clI r w) (cN r) := smT_le fun c h => upI_le (hin c h).1 hs
    rw [← dsI_cl r hb] at h1
    have := dsI_in r hw
    omega
/-- After how many rains a pail is full. -/
def ftI (r : Roof) (w : Nat → Int) (s : Int) (c : Nat) : Int := if clI r w c = 0 then 0 else upI s (clI r w c)
theorem ftI_facts {r : Roof} {w : Nat → Int} (hw : ∀ c, c < 17 → 0 ≤ w c ∧ w c ≤ 1000) {s : Int} (hs : 1 ≤ s ∧ s ≤ 10000) {c : Nat} (hc : c < 17) :
    (ftI r w s c = 0 ↔ clI r w c = 0) ∧ 0 ≤ ftI r w s c ∧ ftI r w s c ≤ 10000 ∧ (ftI r w s c > 0 → s ≤ ftI r w s c * clI r w c ∧ (ftI r w s c - 1) * clI r w c < s) := by
  have hin := clI_in r hw hc
  unfold ftI
  split
  · rename_i h; rw [h]; simp
  · rename_i h
    have h1 : 1 ≤ clI r w c := by omega
    obtain ⟨g1, g2, g3⟩ := upI_facts (n := s) (s := clI r w c) (by omega) h1
    have g4 := upI_zero (n := s) (s := clI r w c) (by omega) h1
    have g5 := upI_le (n := s) (s := clI r w c) (by omega) h1
    refine ⟨by omega, g3, by omega, fun _ => ⟨g1, g2⟩⟩
theorem qL_map (q : Nat → Int) (f : Int → Int) (n : Nat) : (qL q n).map f = qL (fun i => f (q i)) n := by simp [qL]
/-- A roof with a whole tile is valid. -/
theorem okR_put {r : Roof} (h : okR r = true) (c k : Nat) : okR (putR r c k 0) = true := by
  unfold okR at h ⊢
  simp only [Bool.and_eq_true] at h ⊢
  refine ⟨h.1, ?_⟩
  rw [List.all_eq_true] at h ⊢
  intro i hi
  have := h.2 i hi
  rw [List.all_eq_true] at this ⊢
  intro j hj
  have := this j hj
  unfold cellOk at this ⊢
  simp only [putR, putG]
  split
  · simp
  · exact this
theorem okN_put {r : Roof} {w : Nat → Int} (h : okN r w = true) (c k : Nat) : okN (putR r c k 0) w = true := by
  unfold okN at h ⊢
  rw [Bool.and_eq_true] at h ⊢
  exact ⟨okR_put h.1 c k, h.2⟩
theorem okN_md {r : Roof} {w : Nat → Int} (h : okN r w = true) : ∀ n, okN (mdR r w n) w = true
  | 0 => h
  | n + 1 => okN_put (okN_md h n) _ _
theorem putR_same {r : Roof} {c k : Nat} (h : r.t c k = 0) : putR r c k 0 = r := by
  have : putG r.t c k 0 = r.t := by
    funext i j
    unfold putG
    split
    · rename_i e; rw [e.1, e.2, h]
    · rfl
  unfold putR; rw [this]
theorem svI_same {r : Roof} {w : Nat → Int} {c k : Nat} (h : r.t c k = 0) : svI r w c k = 0 := by unfold svI; rw [putR_same h]; omega
theorem roofC_ne {r : Roof} {c k : Nat} (hc : c < 8) (hk : k < 8) (h : r.t c k ≠ 0) : roofC (putR r c k 0) ≠ roofC r := by
  intro e
  have h1 := congrArg (fun l => nth l (0 + 3 + (c : Int).toNat * 8 + (k : Int).toNat * 1)) e
  have e1 := roofN (r := putR r c k 0) hc hk
  have e2 := roofN (r := r) hc hk
  rw [h1, e2] at e1
  simp [putR, putG] at e1
  exact h e1
theorem wrP_mem {r : Roof} {q : Pl} (h : q ∈ gridP r.w.toNat r.h.toNat) : q ∈ wrP r ↔ r.t q.1 q.2 ≠ 0 := by
  rw [wrP_eq, List.mem_filter]
  unfold wrB
  simp [h]
theorem svI_le {r : Roof} {w : Nat → Int} {q : Pl} (h : q ∈ wrP r) : svI r w q.1 q.2 ≤ svI r w (bwP r w).1 (bwP r w).2 := by
  obtain ⟨i, hi, rfl⟩ := List.getElem_of_mem h
  have e : nthP (wrP r) i = (wrP r)[i] := by unfold nthP; rw [List.getD_eq_getElem?_getD]; simp [hi]
  have := bestL_max (svI r w) (wrP r) ((wrP r).length - 1) i (by omega)
  rw [e] at this
  exact this
/-- The best save, as it is told. -/
def bqP (r : Roof) (w : Nat → Int) : Pl := if 0 < (wrP r).length then bwP r w else (0, 0)
def bqS (r : Roof) (w : Nat → Int) : Int := if 0 < (wrP r).length then svI r w (bwP r w).1 (bwP r w).2 else 0
def bqK (r : Roof) : Int := if 0 < (wrP r).length then 0 else 6
def ckN (r : Roof) (x : Int) : List Pl := allP r fun c k => r.t c k == x
theorem ckN_len (r : Roof) : (ckN r 0).length + (wrP r).length = (gridP r.w.toNat r.h.toNat).length := by
  unfold ckN
  rw [allP_eq, wrP_eq]
  generalize gridP r.w.toNat r.h.toNat = l
  induction l with
  | nil => rfl
  | cons q l ih =>
    simp only [List.filter_cons, wrB]
    by_cases h : r.t q.1 q.2 = 0
    · simp [h]; simp [wrB] at ih; omega
    · have : (r.t q.1 q.2 == 0) = false := by simpa using h
      simp [this, h]; simp [wrB] at ih; omega
/-- The rounds end. -/
theorem mdN_ends {r : Roof} (hb : (1 ≤ r.w ∧ r.w ≤ 8) ∧ (1 ≤ r.h ∧ r.h ≤ 8) ∧ r.s ≤ 1) {w : Nat → Int} (hw : ∀ c, c < 17 → 0 ≤ w c ∧ w c ≤ 1000) {b : Int} (hb0 : 0 ≤ b) :
    ∃ n, n ≤ 64 ∧ MdOk r w b n ∧ dsI (mdR r w n) w ≤ b := by
  have : ∀ f n, MdOk r w b n → 65 ≤ f + n → ∃ n, n ≤ 64 ∧ MdOk r w b n ∧ dsI (mdR r w n) w ≤ b := by
    intro f
    induction f with
    | zero => intro n h hf; have := h.le; omega
    | succ f ih =>
      intro n h hf
      by_cases hd : b < dsI (mdR r w n) w
      · exact ih (n + 1) (h.next hb hw hb0 hd).2 (by omega)
      · exact ⟨n, by have := h.le; omega, h, by omega⟩
  exact this 65 0 (MdOk.zero hb w b) (by omega)
structure MdAll (r : Roof) (w : Nat → Int) (b : Int) (n : Nat) : Prop where
  le : n ≤ 64
  is : mdX r w b = mdL r w n
  end' : dsI (mdR r w n) w ≤ b
  no : ∀ j, j < n → b < dsI (mdR r w j) w
  wr : ∀ j, j < n → 0 < (wrP (mdR r w j)).length
  zero : n = 0 ↔ dsI r w ≤ b
theorem mdAll {r : Roof} (hb : (1 ≤ r.w ∧ r.w ≤ 8) ∧ (1 ≤ r.h ∧ r.h ≤ 8) ∧ r.s ≤ 1) {w : Nat → Int} (hO : okN r w = true) {b : Int} (hb0 : 0 ≤ b) : ∃ n, MdAll r w b n := by
  have hw := okN_w hO
  obtain ⟨n, hn, hm, hd⟩ := mdN_ends hb hw hb0
  refine ⟨n, hn, mdX_is hO hb0 hm hd, hd, hm.no, fun j hj => wrP_ne hw (by simpa using hb) (by have := hm.no j hj; omega), ?_⟩
  constructor
  · intro h; subst h; exact hd
  · intro h
    rcases Nat.eq_zero_or_pos n with h0 | h0
    · exact h0
    · have := hm.no 0 h0
      simp only [mdR] at this; omega
theorem mdL_nth (r : Roof) (w : Nat → Int) : ∀ n k, k < n → nthP (mdL r w n) k = bwP (mdR r w k) w
  | 0, k, h => by omega
  | n + 1, k, h => by
    simp only [mdL]
    by_cases e : k = n
    · subst e
      have := nthP_last (ps := mdL r w k) (q := bwP (mdR r w k) w)
      rw [mdL_len] at this
      exact this
    · rw [nthP_left (by rw [mdL_len]; omega)]
      exact mdL_nth r w n k (by omega)
end Go.V
/- Contracts: sums of drips, the best save, columns, pails, both sides. -/
set_option linter.unusedVariables false
set_option linter.unusedSimpArgs false
namespace Go.V
/- Words for the walks of this text: their default arguments are tried where they are used. -/
theorem go_E18 {P Q : Prop} (k : Q) (h : P := by first | exact Nat.le_of_ble_eq_true rfl | exact rfl | decide | omega | (simp [splice]; done) | (constructor <;> omega) | (simp [splice]; omega)) : P ∧ Q := ⟨h, k⟩
theorem lk_E18 {α : Type} {o : Option α} {K : α → Prop} {x : α} (k : K x) (h : o = some x := by first | exact raiA (by omega) | exact raiA' (by omega) | exact watA (by omega) | exact watA' (by omega) | exact dripA (by omega) (by omega) | exact roofN (by omega) (by omega) | exact gridN (by omega) (by omega) | exact intA (by omega) | exact intA' (by omega) | exact placeA (by omega) | exact placeB (by omega) | exact placeA' (by omega) | exact placeB' (by omega)) : optK o K := optK_of h k
theorem sc_E18 {P : Program} {g : FuncId} {args args' : List D} {res : D} (h : Sat P g args res) (e : args' = args := by repeat (first | rfl | exact vfull (by first | (simp [splice]; done) | (simp [splice]; omega)) | exact rfull (by first | (simp [splice]; done) | (simp [splice]; omega)) | exact vdrow (by simp; done) (by omega) | exact vrows (by omega) | exact vplace (by simp; done) (by omega) | exact vrow (by simp; done) (by omega) | exact vtiles (by simp) | exact vsplice (by simp) (by simp) | refine ceq ?_ ?_ | refine Eq.trans (vsplice (by first | (simp; done) | (simp; omega)) (by first | (simp; done) | (simp; omega))) ?_)) : Sat P g args' res := Sat.of_eq h e
theorem leaf_E18 {P : Prop} (h : P := by first | rfl | exact succ8 (by omega) | exact succ64 (by omega) | exact CapOk.fn (by assumption) _ _ | exact vintS (by omega) | exact vintS (by rw [w64 (by omega) (by omega)]; omega) | exact vintS (by rw [w8 (by omega) (by omega)]; omega) | exact vslcS (by omega) | exact vslcS (by simp)) : P := h
theorem hold_E18 {P : Prop} (h : P := by (repeat' (first | exact trivial | apply And.intro)) <;> (first | rfl | exact succ8 (by omega) | exact succ64 (by omega) | exact CapOk.fn (by assumption) _ _ | exact vintS (by omega) | exact vintS (by rw [w64 (by omega) (by omega)]; omega) | exact vintS (by rw [w8 (by omega) (by omega)]; omega) | exact vslcS (by omega) | exact vslcS (by simp))) : P := h
theorem okt_E18 {P : Prop} (h : P := by first | omega | (dsimp only; omega) | ((repeat' apply And.intro) <;> omega) | (dsimp only; (repeat' apply And.intro) <;> omega) | trivial) : P := h
end Go.V
namespace Go.V
def knP (r : Roof) (x : Int) (c k : Nat) : Bool := r.t c k == x
def hasP (r : Roof) (q : Pl) : Prop := (q.1 : Int) < r.h ∧ (q.2 : Int) < r.w
theorem take_full0 {ys : List Value} {n : Nat} (h : ys.length ≤ n) : (ys.drop 0).take n = ys := by rw [List.drop_zero, List.take_of_length_le h]
theorem vsplT {xs ys : List Value} {n : Nat} {z : D} (h : xs.length = ys.length) (h2 : ys.length ≤ n) : D.tup [D.v (.agg ⟨((splice xs 0 ((ys.drop 0).take n)).drop 0).take n⟩), z] = .tup [.v (.agg ⟨ys⟩), z] := by
  rw [take_full0 h2, splice_all h, take_full0 h2]
def i32C (xs : List Int) : List Value := xs.map (Value.int .i32)
@[simp] theorem i32C_len (xs : List Int) : (i32C xs).length = xs.length := by simp [i32C]
theorem i32C_append (xs ys : List Int) : i32C (xs ++ ys) = i32C xs ++ i32C ys := by simp [i32C]
def i32D (m : Bool) (xs : List Int) : D := .row m 1 (.v (.agg ⟨i32C xs⟩)) xs.length
theorem i32A {xs : List Int} {i : Nat} (h : i < xs.length) : nth (i32C xs) ((i : Int).toNat * 1) = some (.int .i32 (ix xs i)) := by
  rw [nth_eq]
  unfold i32C ix
  rw [List.getD_eq_getElem?_getD]
  simp [h]
end Go.V
namespace Go.Proofs.Ytecjkbgepbefcaa
open Go.V
theorem hasS {r : Roof} (hr : r.In) (hb : Rb r) {q : Pl} (h : hasP r q) : Sat Try.prog 68 [roofD r, plD q] (.v (.bool true)) := by
  have := has_sat r hr q.1 q.2 hb.1.1 hb.2.1.1
  rw [show (decide (0 ≤ (q.1 : Int)) && decide ((q.1 : Int) ≤ r.h - 1) && (decide (0 ≤ (q.2 : Int)) && decide ((q.2 : Int) ≤ r.w - 1))) = true by
    have h1 := h.1
    have h2 := h.2
    simp; omega] at this
  exact this
theorem isS {r : Roof} (hr : r.In) (hb : Rb r) {q : Pl} (h : hasP r q) : Sat Try.prog 86 [.ref false (roofD r) 0, plD q] (.v (.bool true)) := by
  have h1 := h.1
  have h2 := h.2
  have := l01Is_sat r hr q.1 q.2 (by omega) (by omega)
  rw [show (decide ((q.1 : Int) ≥ 0) && decide ((q.1 : Int) ≤ r.h - 1) && (decide ((q.2 : Int) ≥ 0) && decide ((q.2 : Int) ≤ r.w - 1))) = true by simp; omega] at this
  exact this
theorem implDripSum_sat (r : Roof) (hr : r.In) (w : Nat → Int) (hw : RaiIn w) (hO : okN r w = true) : Sat Try.prog 28 [roofD r, raiD w] (.tup [.v (.int .i64 (dsI r w)), .v (.int .i64 0)]) := by
  have hw1 : W1 w := okN_w hO
  have hb := okR_bounds (okN_R hO)
  have sV := validRain_sat r hr w hw
  rw [hO] at sV
  refine sat_of_wp hMix tOk Try.func28 rfl rfl Try.ntmps28 rfl rfl Try.results28 (by kernel_rfl) ?_
  conv => whnf
  repeat (first | (refine go_E18 ?_; conv => whnf) | (refine lk_E18 ?_; conv => whnf))
  first | refine ⟨_, _, rfl, sc_E18 (sV), ?_⟩ | refine .inl ⟨_, _, rfl, sc_E18 (sV), ?_⟩
  conv => whnf
  repeat (first | (refine go_E18 ?_; conv => whnf) | (refine lk_E18 ?_; conv => whnf))
  first | refine ⟨_, _, rfl, sc_E18 (dripSum_sat r hr hb w hw1), ?_⟩ | refine .inl ⟨_, _, rfl, sc_E18 (dripSum_sat r hr hb w hw1), ?_⟩
  conv => whnf
  repeat (first | (refine go_E18 ?_; conv => whnf) | (refine lk_E18 ?_; conv => whnf))
  first | refine ⟨rfl, _, rfl, ?_⟩ | refine ⟨_, rfl, ?_⟩
  rfl
theorem specDripSum_sat (r : Roof) (hr : r.In) (w : Nat → Int) (hw : RaiIn w) (hO : okN r w = true) : Sat Try.prog 29 [roofD r, raiD w] (.tup [.v (.int .i64 (dsI r w)), .v (.int .i64 0)]) := by
  have hw1 : W1 w := okN_w hO
  have hb := okR_bounds (okN_R hO)
  have sV := l02Ok_sat r hr w hw
  rw [hO] at sV
  refine sat_of_wp hMix tOk Try.func29 rfl rfl Try.ntmps29 rfl rfl Try.results29 (by kernel_rfl) ?_
  conv => whnf
  repeat (first | (refine go_E18 ?_; conv => whnf) | (refine lk_E18 ?_; conv => whnf))
  first | refine ⟨_, _, rfl, sc_E18 (sV), ?_⟩ | refine .inl ⟨_, _, rfl, sc_E18 (sV), ?_⟩
  conv => whnf
  repeat (first | (refine go_E18 ?_; conv => whnf) | (refine lk_E18 ?_; conv => whnf))
  first | refine ⟨_, _, rfl, sc_E18 (l02Sum_sat r hr hb w hw1), ?_⟩ | refine .inl ⟨_, _, rfl, sc_E18 (l02Sum_sat r hr hb w hw1), ?_⟩
  conv => whnf
  repeat (first | (refine go_E18 ?_; conv => whnf) | (refine lk_E18 ?_; conv => whnf))
  first | refine ⟨rfl, _, rfl, ?_⟩ | refine ⟨_, rfl, ?_⟩
  rfl
def bqV (r : Roof) (w : Nat → Int) : D := .tup [plD (bqP r w), .v (.int .i64 (bqS r w)), .v (.int .i64 (bqK r))]
theorem implBestSave_sat (r : Roof) (hr : r.In) (w : Nat → Int) (hw : RaiIn w) (hO : okN r w = true) : Sat Try.prog 30 [roofD r, raiD w] (bqV r w) := by
  have hw1 : W1 w := okN_w hO
  have hb := okR_bounds (okN_R hO)
  have sV := validRain_sat r hr w hw
  rw [hO] at sV
  have hl := allP_len hb (wrB r)
  change (wrP r).length ≤ 64 at hl
  unfold bqV
  refine sat_of_wp hMix tOk Try.func30 rfl rfl Try.ntmps30 rfl rfl Try.results30 (by kernel_rfl) ?_
  conv => whnf
  repeat (first | (refine go_E18 ?_; conv => whnf) | (refine lk_E18 ?_; conv => whnf))
  first | refine ⟨_, _, rfl, sc_E18 (sV), ?_⟩ | refine .inl ⟨_, _, rfl, sc_E18 (sV), ?_⟩
  conv => whnf
  repeat (first | (refine go_E18 ?_; conv => whnf) | (refine lk_E18 ?_; conv => whnf))
  first | refine ⟨_, _, rfl, sc_E18 (wrong_sat r hr hb), ?_⟩ | refine .inl ⟨_, _, rfl, sc_E18 (wrong_sat r hr hb), ?_⟩
  conv => whnf
  repeat (first | (refine go_E18 ?_; conv => whnf) | (refine lk_E18 ?_; conv => whnf))
  by_cases h : 0 < (wrP r).length
  · have hq := bwP_in (r := r) (w := w) hb h
    rw [show bqP r w = bwP r w from if_pos h, show bqS r w = svI r w (bwP r w).1 (bwP r w).2 from if_pos h, show bqK r = 0 from if_pos h]
    rw [show (((wrP r).length : Int) == 0) = false by simp; intro e; rw [e] at h; simp at h]
    conv => whnf
    repeat (first | (refine go_E18 ?_; conv => whnf) | (refine lk_E18 ?_; conv => whnf))
    first | refine ⟨_, _, rfl, sc_E18 (bestSave_sat r hr hb w hw1 h), ?_⟩ | refine .inl ⟨_, _, rfl, sc_E18 (bestSave_sat r hr hb w hw1 h), ?_⟩
    conv => whnf
    repeat (first | (refine go_E18 ?_; conv => whnf) | (refine lk_E18 ?_; conv => whnf))
    first | refine ⟨_, _, rfl, sc_E18 (save_sat r hr hb w hw1 (bwP r w).1 (bwP r w).2 hq.1 hq.2), ?_⟩ | refine .inl ⟨_, _, rfl, sc_E18 (save_sat r hr hb w hw1 (bwP r w).1 (bwP r w).2 hq.1 hq.2), ?_⟩
    conv => whnf
    repeat (first | (refine go_E18 ?_; conv => whnf) | (refine lk_E18 ?_; conv => whnf))
    first | refine ⟨rfl, _, rfl, ?_⟩ | refine ⟨_, rfl, ?_⟩
    rfl
  · rw [show bqP r w = (0, 0) from if_neg h, show bqS r w = 0 from if_neg h, show bqK r = 6 from if_neg h]
    rw [show (((wrP r).length : Int) == 0) = true by simp; exact List.length_eq_zero_iff.1 (by omega)]
    conv => whnf
    repeat (first | (refine go_E18 ?_; conv => whnf) | (refine lk_E18 ?_; conv => whnf))
    first | refine ⟨rfl, _, rfl, ?_⟩ | refine ⟨_, rfl, ?_⟩
    rfl
theorem specBestSave_sat (r : Roof) (hr : r.In) (w : Nat → Int) (hw : RaiIn w) (hO : okN r w = true) : Sat Try.prog 31 [roofD r, raiD w] (bqV r w) := by
  have hw1 : W1 w := okN_w hO
  have hb := okR_bounds (okN_R hO)
  have sV := l02Ok_sat r hr w hw
  rw [hO] at sV
  have sB := l02Best_sat r hr hb w hw1
  unfold bqV
  refine sat_of_wp hMix tOk Try.func31 rfl rfl Try.ntmps31 rfl rfl Try.results31 (by kernel_rfl) ?_
  conv => whnf
  repeat (first | (refine go_E18 ?_; conv => whnf) | (refine lk_E18 ?_; conv => whnf))
  first | refine ⟨_, _, rfl, sc_E18 (sV), ?_⟩ | refine .inl ⟨_, _, rfl, sc_E18 (sV), ?_⟩
  conv => whnf
  repeat (first | (refine go_E18 ?_; conv => whnf) | (refine lk_E18 ?_; conv => whnf))
  by_cases h : 0 < (wrP r).length
  · rw [bsO_best _ _ h] at sB
    rw [show bqP r w = bwP r w from if_pos h, show bqS r w = svI r w (bwP r w).1 (bwP r w).2 from if_pos h, show bqK r = 0 from if_pos h]
    first | refine ⟨_, _, rfl, sc_E18 (sB), ?_⟩ | refine .inl ⟨_, _, rfl, sc_E18 (sB), ?_⟩
    conv => whnf
    repeat (first | (refine go_E18 ?_; conv => whnf) | (refine lk_E18 ?_; conv => whnf))
    first | refine ⟨rfl, _, rfl, ?_⟩ | refine ⟨_, rfl, ?_⟩
    rfl
  · have h0 : wrP r = [] := List.length_eq_zero_iff.1 (by omega)
    rw [h0, bsO_nil] at sB
    rw [show bqP r w = (0, 0) from if_neg h, show bqS r w = 0 from if_neg h, show bqK r = 6 from if_neg h]
    first | refine ⟨_, _, rfl, sc_E18 (sB), ?_⟩ | refine .inl ⟨_, _, rfl, sc_E18 (sB), ?_⟩
    conv => whnf
    repeat (first | (refine go_E18 ?_; conv => whnf) | (refine lk_E18 ?_; conv => whnf))
    first | refine ⟨rfl, _, rfl, ?_⟩ | refine ⟨_, rfl, ?_⟩
    rfl
theorem implSaveOf_sat (r : Roof) (hr : r.In) (w : Nat → Int) (hw : RaiIn w) (hO : okN r w = true) (q : Pl) (hq : hasP r q) : Sat Try.prog 33 [roofD r, raiD w, plD q] (.tup [.v (.int .i64 (svI r w q.1 q.2)), .v (.int .i64 0)]) := by
  have hw1 : W1 w := okN_w hO
  have hb := okR_bounds (okN_R hO)
  have hq1 := hq.1
  have hq2 := hq.2
  have sV := rainCode_sat r hr w hw true
  rw [show rnK r w true = 0 by unfold rnK; rw [hO]; rfl] at sV
  refine sat_of_wp hMix tOk Try.func33 rfl rfl Try.ntmps33 rfl rfl Try.results33 (by kernel_rfl) ?_
  conv => whnf
  repeat (first | (refine go_E18 ?_; conv => whnf) | (refine lk_E18 ?_; conv => whnf))
  first | refine ⟨_, _, rfl, sc_E18 (hasS hr hb hq), ?_⟩ | refine .inl ⟨_, _, rfl, sc_E18 (hasS hr hb hq), ?_⟩
  conv => whnf
  repeat (first | (refine go_E18 ?_; conv => whnf) | (refine lk_E18 ?_; conv => whnf))
  first | refine ⟨_, _, rfl, sc_E18 (sV), ?_⟩ | refine .inl ⟨_, _, rfl, sc_E18 (sV), ?_⟩
  conv => whnf
  repeat (first | (refine go_E18 ?_; conv => whnf) | (refine lk_E18 ?_; conv => whnf))
  first | refine ⟨_, _, rfl, sc_E18 (save_sat r hr hb w hw1 q.1 q.2 (by omega) (by omega)), ?_⟩ | refine .inl ⟨_, _, rfl, sc_E18 (save_sat r hr hb w hw1 q.1 q.2 (by omega) (by omega)), ?_⟩
  conv => whnf
  repeat (first | (refine go_E18 ?_; conv => whnf) | (refine lk_E18 ?_; conv => whnf))
  first | refine ⟨rfl, _, rfl, ?_⟩ | refine ⟨_, rfl, ?_⟩
  rfl
theorem specSaveOf_sat (r : Roof) (hr : r.In) (w : Nat → Int) (hw : RaiIn w) (hO : okN r w = true) (q : Pl) (hq : hasP r q) : Sat Try.prog 34 [roofD r, raiD w, plD q] (.tup [.v (.int .i64 (svI r w q.1 q.2)), .v (.int .i64 0)]) := by
  have hw1 : W1 w := okN_w hO
  have hb := okR_bounds (okN_R hO)
  have hq1 := hq.1
  have hq2 := hq.2
  have sV := l02Ok_sat r hr w hw
  rw [hO] at sV
  refine sat_of_wp hMix tOk Try.func34 rfl rfl Try.ntmps34 rfl rfl Try.results34 (by kernel_rfl) ?_
  conv => whnf
  repeat (first | (refine go_E18 ?_; conv => whnf) | (refine lk_E18 ?_; conv => whnf))
  first | refine ⟨_, _, rfl, sc_E18 (sV), ?_⟩ | refine .inl ⟨_, _, rfl, sc_E18 (sV), ?_⟩
  conv => whnf
  repeat (first | (refine go_E18 ?_; conv => whnf) | (refine lk_E18 ?_; conv => whnf))
  first | refine ⟨_, _, rfl, sc_E18 (isS hr hb hq), ?_⟩ | refine .inl ⟨_, _, rfl, sc_E18 (isS hr hb hq), ?_⟩
  conv => whnf
  repeat (first | (refine go_E18 ?_; conv => whnf) | (refine lk_E18 ?_; conv => whnf))
  first | refine ⟨_, _, rfl, sc_E18 (l02Save_sat r hr hb w hw1 q.1 q.2 (by omega) (by omega)), ?_⟩ | refine .inl ⟨_, _, rfl, sc_E18 (l02Save_sat r hr hb w hw1 q.1 q.2 (by omega) (by omega)), ?_⟩
  conv => whnf
  repeat (first | (refine go_E18 ?_; conv => whnf) | (refine lk_E18 ?_; conv => whnf))
  first | refine ⟨rfl, _, rfl, ?_⟩ | refine ⟨_, rfl, ?_⟩
  rfl
theorem l01AskedS {r : Roof} (hr : r.In) (hok : okR r = true) {q : Pl} (hq : hasP r q) : Sat Try.prog 88 [.ref false (roofD r) 0, plD q, .v (.bool true)] (.v (.int .i64 0)) := by
  have hb := okR_bounds hok
  have sV := l01Ok_sat r hr
  rw [hok] at sV
  refine sat_of_wp hMix tOk Try.func88 rfl rfl Try.ntmps88 rfl rfl Try.results88 (by kernel_rfl) ?_
  conv => whnf
  repeat (first | (refine go_E18 ?_; conv => whnf) | (refine lk_E18 ?_; conv => whnf))
  first | refine ⟨_, _, rfl, sc_E18 (sV), ?_⟩ | refine .inl ⟨_, _, rfl, sc_E18 (sV), ?_⟩
  conv => whnf
  repeat (first | (refine go_E18 ?_; conv => whnf) | (refine lk_E18 ?_; conv => whnf))
  first | refine ⟨_, _, rfl, sc_E18 (isS hr hb hq), ?_⟩ | refine .inl ⟨_, _, rfl, sc_E18 (isS hr hb hq), ?_⟩
  conv => whnf
  repeat (first | (refine go_E18 ?_; conv => whnf) | (refine lk_E18 ?_; conv => whnf))
  first | refine ⟨rfl, _, rfl, ?_⟩ | refine ⟨_, rfl, ?_⟩
  rfl
theorem specKindAt_sat (r : Roof) (hr : r.In) (hok : okR r = true) (q : Pl) (hq : hasP r q) : Sat Try.prog 35 [roofD r, plD q] (.tup [.v (.int .i64 (r.t q.1 q.2)), .v (.int .i64 0)]) := by
  have hb := okR_bounds hok
  have hq1 := hq.1
  have hq2 := hq.2
  refine sat_of_wp hMix tOk Try.func35 rfl rfl Try.ntmps35 rfl rfl Try.results35 (by kernel_rfl) ?_
  conv => whnf
  repeat (first | (refine go_E18 ?_; conv => whnf) | (refine lk_E18 ?_; conv => whnf))
  first | refine ⟨_, _, rfl, sc_E18 (l01AskedS hr hok hq), ?_⟩ | refine .inl ⟨_, _, rfl, sc_E18 (l01AskedS hr hok hq), ?_⟩
  conv => whnf
  repeat (first | (refine go_E18 ?_; conv => whnf) | (refine lk_E18 ?_; conv => whnf))
  first | refine ⟨_, _, rfl, sc_E18 (l01At_sat r hr q.1 q.2 (by omega) (by omega)), ?_⟩ | refine .inl ⟨_, _, rfl, sc_E18 (l01At_sat r hr q.1 q.2 (by omega) (by omega)), ?_⟩
  conv => whnf
  repeat (first | (refine go_E18 ?_; conv => whnf) | (refine lk_E18 ?_; conv => whnf))
  first | refine ⟨rfl, _, rfl, ?_⟩ | refine ⟨_, rfl, ?_⟩
  rfl
theorem specSetTile_sat (r : Roof) (hr : r.In) (hok : okR r = true) (q : Pl) (hq : hasP r q) : Sat Try.prog 36 [roofD r, plD q, .v (.int .i64 0)] (.tup [roofD (putR r q.1 q.2 0), .v (.int .i64 0)]) := by
  have hb := okR_bounds hok
  have hq1 := hq.1
  have hq2 := hq.2
  have hc : q.1 < 8 := by omega
  have hk : q.2 < 8 := by omega
  have setA := roof_set (r := r) (c := q.1) (k := q.2) (o := 0 + 3 + (q.1 : Int).toNat * 8 + (q.2 : Int).toNat * 1) (x := 0) (by simp) hc hk
  refine sat_of_wp hMix tOk Try.func36 rfl rfl Try.ntmps36 rfl rfl Try.results36 (by kernel_rfl) ?_
  conv => whnf
  repeat (first | (refine go_E18 ?_; conv => whnf) | (refine lk_E18 ?_; conv => whnf))
  first | refine ⟨_, _, rfl, sc_E18 (l01Kind_sat 0), ?_⟩ | refine .inl ⟨_, _, rfl, sc_E18 (l01Kind_sat 0), ?_⟩
  conv => whnf
  repeat (first | (refine go_E18 ?_; conv => whnf) | (refine lk_E18 ?_; conv => whnf))
  first | refine ⟨_, _, rfl, sc_E18 (l01AskedS hr hok hq), ?_⟩ | refine .inl ⟨_, _, rfl, sc_E18 (l01AskedS hr hok hq), ?_⟩
  conv => whnf
  repeat (first | (refine go_E18 ?_; conv => whnf) | (refine lk_E18 ?_; conv => whnf))
  first | refine ⟨rfl, _, rfl, ?_⟩ | refine ⟨_, rfl, ?_⟩
  skip
  rw [show roofD (putR r q.1 q.2 0) = .v (.agg ⟨roofC (putR r q.1 q.2 0)⟩) from rfl, ← setA]
  exact (vsplT (by simp) (by simp)).symm
theorem l01ToldS {r : Roof} (hr : r.In) (hok : okR r = true) : Sat Try.prog 82 [.ref false (roofD r) 0, .v (.bool true)] (.v (.int .i64 0)) := by
  have sV := l01Ok_sat r hr
  rw [hok] at sV
  refine sat_of_wp hMix tOk Try.func82 rfl rfl Try.ntmps82 rfl rfl Try.results82 (by kernel_rfl) ?_
  conv => whnf
  repeat (first | (refine go_E18 ?_; conv => whnf) | (refine lk_E18 ?_; conv => whnf))
  first | refine ⟨_, _, rfl, sc_E18 (sV), ?_⟩ | refine .inl ⟨_, _, rfl, sc_E18 (sV), ?_⟩
  conv => whnf
  repeat (first | (refine go_E18 ?_; conv => whnf) | (refine lk_E18 ?_; conv => whnf))
  first | refine ⟨rfl, _, rfl, ?_⟩ | refine ⟨_, rfl, ?_⟩
  rfl
theorem l01Tiles_sat (r : Roof) (hr : r.In) (hb : Rb r) (x : Int) : Sat Try.prog 84 [.ref false (roofD r) 0, .v (.int .i64 x)] (placesD true (ckN r x)) := by
  have hall : Sat Try.prog 58 [.ref false (roofD r) 0] (placesD true (gridP r.w.toNat r.h.toNat)) := by rw [← allP_true]; exact l01All_sat r hr hb
  have hl := gridP_size hb
  have hps := gridP_in (w := r.w.toNat) (h := r.h.toNat) (by omega) (by omega)
  have hres : ckN r x = selP (knP r x) (gridP r.w.toNat r.h.toNat) (gridP r.w.toNat r.h.toNat).length := by rw [selP_all]; exact allP_eq r _
  rw [hres]
  generalize gridP r.w.toNat r.h.toNat = ps at *
  refine sat_of_wp hMix tOk Try.func84 rfl rfl Try.ntmps84 rfl rfl Try.results84 (by kernel_rfl) ?_
  conv => whnf
  repeat (first | (refine go_E18 ?_; conv => whnf) | (refine lk_E18 ?_; conv => whnf))
  first | refine ⟨_, _, rfl, sc_E18 (hall), ?_⟩ | refine .inl ⟨_, _, rfl, sc_E18 (hall), ?_⟩
  conv => whnf
  repeat (first | (refine go_E18 ?_; conv => whnf) | (refine lk_E18 ?_; conv => whnf))
  refine loop_rule (α := Nat) (fun i => [(0, .ref false (roofD r) 0), (1, .v (.int .i64 x)), (5, .slc true 2 (31, 0, 0) 0 (selP (knP r x) ps i).length), (6, .slc true 2 (10, 0, 0) 0 ps.length), (7, .v (.int .i64 i))]) (fun i => [((31, 0, 0), .v (.agg ⟨placesC (selP (knP r x) ps i)⟩)), ((10, 0, 0), .v (.agg ⟨placesC ps⟩))]) (fun i => i ≤ ps.length) (fun i => ps.length - i) (0) ?_ (sim_of (rn := [((31, 0, 0), (8, 0, 0)), ((10, 0, 0), (10, 0, 0))]) rfl ?_ ?_) ?_
  · exact okt_E18
  · ((repeat' (first | exact trivial | apply And.intro)) <;> (first | rfl | ((rw [selP_zero]; rfl)) | exact leaf_E18))
  · ((repeat' (first | exact trivial | apply And.intro)) <;> ((first | refine ⟨_, _, rfl, rfl, ?_⟩ ); first | rfl | ((rw [selP_zero]; rfl))))
  intro i hi
  have hsl := selP_len (knP r x) ps i
  conv => whnf
  repeat (first | (refine go_E18 ?_; conv => whnf) | (refine lk_E18 ?_; conv => whnf))
  cases h : decide ((i : Int) < (ps.length : Int))
  · have hin : i = ps.length := by simp at h; omega
    subst hin
    conv => whnf
    repeat (first | (refine go_E18 ?_; conv => whnf) | (refine lk_E18 ?_; conv => whnf))
    first | refine ⟨rfl, _, rfl, ?_⟩ | refine ⟨_, rfl, ?_⟩
    rfl
  have hin : i < ps.length := by simpa using h
  have hqi := hps i hin
  conv => whnf
  repeat (first | (refine go_E18 ?_; conv => whnf) | (refine lk_E18 ?_; conv => whnf))
  first | refine ⟨_, _, rfl, sc_E18 (l01At_sat r hr (nthP ps i).1 (nthP ps i).2 hqi.1 hqi.2), ?_⟩ | refine .inl ⟨_, _, rfl, sc_E18 (l01At_sat r hr (nthP ps i).1 (nthP ps i).2 hqi.1 hqi.2), ?_⟩
  conv => whnf
  repeat (first | (refine go_E18 ?_; conv => whnf) | (refine lk_E18 ?_; conv => whnf))
  rw [show (r.t (nthP ps i).1 (nthP ps i).2 == x) = knP r x (nthP ps i).1 (nthP ps i).2 from rfl]
  cases hp : knP r x (nthP ps i).1 (nthP ps i).2
  · conv => whnf
    repeat (first | (refine go_E18 ?_; conv => whnf) | (refine lk_E18 ?_; conv => whnf))
    rw [← selP_no hin hp]
    refine ⟨i + 1, ?_, ?_, sim_of (rn := [((31, 0, 0), (31, 0, 0)), ((10, 0, 0), (10, 0, 0))]) rfl ?_ ?_⟩
    · (dsimp only; omega)
    · exact okt_E18
    · exact hold_E18
    · ((repeat' (first | exact trivial | apply And.intro)) <;> ((first | refine ⟨_, _, rfl, rfl, ?_⟩ ); rfl))
  · conv => whnf
    repeat (first | (refine go_E18 ?_; conv => whnf) | (refine lk_E18 ?_; conv => whnf))
    have e1 : (selP (knP r x) ps i).length + 1 = (selP (knP r x) ps (i + 1)).length := by rw [selP_yes hin hp, List.length_append]; rfl
    have e0 : List.take ti37.size (List.drop (0 + (i : Int).toNat * ti37.size) ({ toList := placesC ps } : Array Value).toList) = [.int .i8 (nthP ps i).1, .int .i8 (nthP ps i).2] := place_load (by simp) hin
    rw [e0]
    conv => whnf
    repeat (first | (refine go_E18 ?_; conv => whnf) | (refine lk_E18 ?_; conv => whnf))
    have e2 : placesC (selP (knP r x) ps i) ++ [.int .i8 (nthP ps i).1, .int .i8 (nthP ps i).2] = placesC (selP (knP r x) ps (i + 1)) := by
      rw [selP_yes hin hp, placesC_append]; rfl
    refine ⟨i + 1, ?_, ?_, sim_of (rn := [((31, 0, 0), (31, 1, 0)), ((10, 0, 0), (10, 0, 0))]) rfl ?_ ?_⟩
    · (dsimp only; omega)
    · exact okt_E18
    · exact hold_E18
    · ((repeat' (first | exact trivial | apply And.intro)) <;> ((first | refine ⟨_, _, rfl, rfl, ?_⟩ ); first | rfl | (exact cset e2)))
theorem specCountKind_sat (r : Roof) (hr : r.In) (hok : okR r = true) : Sat Try.prog 32 [roofD r, .v (.int .i64 0)] (.tup [.v (.int .i64 (ckN r 0).length), .v (.int .i64 0)]) := by
  have hb := okR_bounds hok
  have hl := allP_len hb fun c k => r.t c k == 0
  change (ckN r 0).length ≤ 64 at hl
  refine sat_of_wp hMix tOk Try.func32 rfl rfl Try.ntmps32 rfl rfl Try.results32 (by kernel_rfl) ?_
  conv => whnf
  repeat (first | (refine go_E18 ?_; conv => whnf) | (refine lk_E18 ?_; conv => whnf))
  first | refine ⟨_, _, rfl, sc_E18 (l01Kind_sat 0), ?_⟩ | refine .inl ⟨_, _, rfl, sc_E18 (l01Kind_sat 0), ?_⟩
  conv => whnf
  repeat (first | (refine go_E18 ?_; conv => whnf) | (refine lk_E18 ?_; conv => whnf))
  first | refine ⟨_, _, rfl, sc_E18 (l01ToldS hr hok), ?_⟩ | refine .inl ⟨_, _, rfl, sc_E18 (l01ToldS hr hok), ?_⟩
  conv => whnf
  repeat (first | (refine go_E18 ?_; conv => whnf) | (refine lk_E18 ?_; conv => whnf))
  first | refine ⟨_, _, rfl, sc_E18 (l01Tiles_sat r hr hb 0), ?_⟩ | refine .inl ⟨_, _, rfl, sc_E18 (l01Tiles_sat r hr hb 0), ?_⟩
  conv => whnf
  repeat (first | (refine go_E18 ?_; conv => whnf) | (refine lk_E18 ?_; conv => whnf))
  first | refine ⟨rfl, _, rfl, ?_⟩ | refine ⟨_, rfl, ?_⟩
  rfl
end Go.Proofs.Ytecjkbgepbefcaa
/- Contracts: what drips in each cell, pails, times until a pail is full, both sides. -/
set_option linter.unusedVariables false
set_option linter.unusedSimpArgs false
namespace Go.V
/- Words for the walks of this text: their default arguments are tried where they are used. -/
theorem go_E19 {P Q : Prop} (k : Q) (h : P := by first | exact Nat.le_of_ble_eq_true rfl | exact rfl | decide | omega | (simp [splice]; done) | (constructor <;> omega) | (simp [splice]; omega)) : P ∧ Q := ⟨h, k⟩
theorem lk_E19 {α : Type} {o : Option α} {K : α → Prop} {x : α} (k : K x) (h : o = some x := by first | exact i32A (by omega) | exact raiA (by omega) | exact raiA' (by omega) | exact watA (by omega) | exact watA' (by omega) | exact dripA (by omega) (by omega) | exact roofN (by omega) (by omega) | exact gridN (by omega) (by omega) | exact intA (by omega) | exact intA' (by omega)) : optK o K := optK_of h k
theorem sc_E19 {P : Program} {g : FuncId} {args args' : List D} {res : D} (h : Sat P g args res) (e : args' = args := by repeat (first | rfl | exact vfull (by first | (simp [splice]; done) | (simp [splice]; omega)) | exact rfull (by first | (simp [splice]; done) | (simp [splice]; omega)) | exact vrows (f := f) (n := 8) ⟨rfl, rfl⟩ | exact vdrow (by simp; done) (by omega) | exact vrows (by omega) | exact vplace (by simp; done) (by omega) | exact vrow (by simp; done) (by omega) | exact vtiles (by simp) | exact vsplice (by simp) (by simp) | refine ceq ?_ ?_ | refine Eq.trans (vsplice (by first | (simp; done) | (simp; omega)) (by first | (simp; done) | (simp; omega))) ?_)) : Sat P g args' res := Sat.of_eq h e
theorem leaf_E19 {P : Prop} (h : P := by first | rfl | exact succ8 (by omega) | exact succ64 (by omega) | exact CapOk.fn (by assumption) _ _ | exact vintS (by omega) | exact vintS (by rw [w64 (by omega) (by omega)]; omega) | exact vintS (by rw [w8 (by omega) (by omega)]; omega) | exact vslcS (by omega) | exact vslcS (by simp)) : P := h
theorem hold_E19 {P : Prop} (h : P := by (repeat' (first | exact trivial | apply And.intro)) <;> (first | rfl | exact succ8 (by omega) | exact succ64 (by omega) | exact CapOk.fn (by assumption) _ _ | exact vintS (by omega) | exact vintS (by rw [w64 (by omega) (by omega)]; omega) | exact vintS (by rw [w8 (by omega) (by omega)]; omega) | exact vslcS (by omega) | exact vslcS (by simp))) : P := h
theorem okt_E19 {P : Prop} (h : P := by first | omega | (dsimp only; omega) | ((repeat' apply And.intro) <;> omega) | (dsimp only; (repeat' apply And.intro) <;> omega) | trivial) : P := h
end Go.V
namespace Go.V
theorem upL_map (f : Int → Int) (n : Nat) : (upL n).map f = qL (fun c => f c) n := by simp [upL, qL, toI]
end Go.V
namespace Go.Proofs.Ytecjkbgepbefcaa
open Go.V
theorem columns11_sat (p : Nat → Int) (c : Nat) (hc : c < 17) : Sat Try.prog 124 [watD p, .ref false (.v (.agg ⟨[.int .i64 c]⟩)) 0] (.v (.int .i32 (p c))) := by
  refine sat_of_wp hMix tOk Try.func124 rfl rfl Try.ntmps124 rfl rfl Try.results124 (by kernel_rfl) ?_
  conv => whnf
  repeat (first | (refine go_E19 ?_; conv => whnf) | (refine lk_E19 ?_; conv => whnf))
  first | refine ⟨rfl, _, rfl, ?_⟩ | refine ⟨_, rfl, ?_⟩
  rfl
theorem eachR32_sat {g : Nat} {caps : List D} {q : Nat → Int} {f : Nat → Nat → Int} (n : Nat) (hn : n ≤ 8) (hc : CapOk caps) (hg : ∀ i, i < n → Sat Try.prog g (watD (f i) :: caps) (.v (.int .i32 (q i)))) :
    Sat Try.prog 123 [rowsD f n, .fn (.func g) [] caps] (i32D true (qL q n)) := by
  refine satN_of_wp hMix tOk Try.func123 rfl rfl Try.ntmps123 rfl rfl Try.results123 (by kernel_rfl) ?_
  conv => whnf
  repeat (first | (refine go_E19 ?_; conv => whnf) | (refine lk_E19 ?_; conv => whnf))
  refine loop_rule (α := Nat) (fun i => [(1, .fn (.func g) [] caps), (5, .slc true 1 (19, 0, 0) 0 i), (8, rowsD f n), (9, .v (.int .i64 n)), (10, .v (.int .i64 i))]) (fun i => [((19, 0, 0), .v (.agg ⟨i32C (qL q i)⟩))]) (fun i => i ≤ n) (fun i => n - i) (0) ?_ (sim_of (rn := [((19, 0, 0), nilId)]) rfl ?_ ?_) ?_
  · exact okt_E19
  · exact hold_E19
  · ((repeat' (first | exact trivial | apply And.intro)) <;> ((first | refine ⟨_, _, rfl, rfl, ?_⟩ ); first | rfl | ((exact cset (show [] = i32C [] from rfl)))))
  intro i hi
  have hl := rowsC_len (f := f) hn
  have hq := qL_len q i
  conv => whnf
  repeat (first | (refine go_E19 ?_; conv => whnf) | (refine lk_E19 ?_; conv => whnf))
  cases h : decide ((i : Int) < (n : Int))
  · have hin : i = n := by simp at h; omega
    subst hin
    unfold i32D
    rw [hq]
    conv => whnf
    repeat (first | (refine go_E19 ?_; conv => whnf) | (refine lk_E19 ?_; conv => whnf))
    first | refine ⟨rfl, _, rfl, [_], rfl, ?_, rfl⟩ | refine ⟨_, rfl, [_], rfl, ?_, rfl⟩
    ((repeat' (first | exact trivial | apply And.intro)) <;> first | exact .inl rfl | exact .inr ⟨rfl, rfl⟩)
  have hin : i < n := by simpa using h
  conv => whnf
  repeat (first | (refine go_E19 ?_; conv => whnf) | (refine lk_E19 ?_; conv => whnf))
  first | refine ⟨_, _, CapOk.one (by assumption) rfl, sc_E19 (hg i hin), ?_⟩ | refine .inl ⟨_, _, CapOk.one (by assumption) rfl, sc_E19 (hg i hin), ?_⟩
  conv => whnf
  repeat (first | (refine go_E19 ?_; conv => whnf) | (refine lk_E19 ?_; conv => whnf))
  have e2 : i32C (qL q i) ++ [.int .i32 (q i)] = i32C (qL q (i + 1)) := by rw [qL_next, i32C_append]; rfl
  refine ⟨i + 1, ?_, ?_, sim_of (rn := [((19, 0, 0), (19, 1, 0))]) rfl ?_ ?_⟩
  · (dsimp only; omega)
  · exact okt_E19
  · ((repeat' (first | exact trivial | apply And.intro)) <;> (first | rfl | (exact vslcS (by omega)) | exact leaf_E19))
  · ((repeat' (first | exact trivial | apply And.intro)) <;> ((first | refine ⟨_, _, rfl, rfl, ?_⟩ ); first | rfl | (exact cset e2)))
theorem sumQ32_sat (p : Nat → Int) (n : Nat) (hn : n ≤ 8) (hp : ∀ i, i < n → 0 ≤ p i ∧ p i ≤ 1000) (m : Bool) : Sat Try.prog 122 [i32D m (qL p n)] (.v (.int .i64 (smT p n))) := by
  have hb := fun i hi => smT_in (b := 1000) (m := n) hp i hi
  refine sat_of_wp hMix tOk Try.func122 rfl rfl Try.ntmps122 rfl rfl Try.results122 (by kernel_rfl) ?_
  conv => whnf
  repeat (first | (refine go_E19 ?_; conv => whnf) | (refine lk_E19 ?_; conv => whnf))
  refine loop_rule (α := Nat) (fun i => [(3, .v (.int .i64 (smT p i))), (6, i32D m (qL p n)), (7, .v (.int .i64 n)), (8, .v (.int .i64 i))]) (fun i => []) (fun i => i ≤ n) (fun i => n - i) (0) ?_ (sim_of (rn := []) rfl ?_ ?_) ?_
  · exact okt_E19
  · ((repeat' (first | exact trivial | apply And.intro)) <;> (first | rfl | (exact vintS (by simp)) | exact leaf_E19))
  · ((repeat' (first | exact trivial | apply And.intro)) <;> ((first | refine ⟨_, _, rfl, rfl, ?_⟩ ); rfl))
  intro i hi
  conv => whnf
  repeat (first | (refine go_E19 ?_; conv => whnf) | (refine lk_E19 ?_; conv => whnf))
  cases h4 : decide ((i : Int) < (n : Int))
  · have h8 : i = n := by simp at h4; omega
    subst h8
    conv => whnf
    repeat (first | (refine go_E19 ?_; conv => whnf) | (refine lk_E19 ?_; conv => whnf))
    first | refine ⟨rfl, _, rfl, ?_⟩ | refine ⟨_, rfl, ?_⟩
    rfl
  have h8 : i < n := by simp at h4; omega
  have h1 := hb i hi
  have h2 := hp i h8
  have hl : i < (qL p n).length := by simpa using h8
  conv => whnf
  repeat (first | (refine go_E19 ?_; conv => whnf) | (refine lk_E19 ?_; conv => whnf))
  rw [qL_ix h8]
  have e : smT p (i + 1) = IntKind.i64.wrap (smT p i + IntKind.i64.wrap (p i)) := by rw [w64 (n := p i) (by omega) (by omega), w64 (by omega) (by omega)]; rfl
  refine ⟨i + 1, ?_, ?_, sim_of (rn := []) rfl ?_ ?_⟩
  · (dsimp only; omega)
  · exact okt_E19
  · ((repeat' (first | exact trivial | apply And.intro)) <;> (first | rfl | (exact vintS e) | exact leaf_E19))
  · ((repeat' (first | exact trivial | apply And.intro)) <;> ((first | refine ⟨_, _, rfl, rfl, ?_⟩ ); rfl))
theorem columns1_sat (f : Nat → Nat → Int) (hf : InM f) (c : Nat) (hc : c < 17) : Sat Try.prog 121 [.v (.int .i64 c), .ref false (dripD f) 0] (.v (.int .i64 (smT (fun i => f i c) 8))) := by
  refine sat_of_wp hMix tOk Try.func121 rfl rfl Try.ntmps121 rfl rfl Try.results121 (by kernel_rfl) ?_
  conv => whnf
  refine ⟨⟨by decide, by decide, by decide⟩, ?_⟩
  conv => whnf
  refine ⟨by show 0 + 0 * 17 + 8 * 17 ≤ (dripC f).length; rw [dripC_len]; omega, ?_⟩
  conv => whnf
  repeat (first | (refine go_E19 ?_; conv => whnf) | (refine lk_E19 ?_; conv => whnf))
  first | refine ⟨_, _, rfl, sc_E19 (eachR32_sat (f := f) (q := fun i => f i c) (caps := [.ref false (.v (.agg ⟨[.int .i64 c]⟩)) 0]) (g := 124) 8 (by omega) ⟨fun _ => rfl, fun _ => rfl⟩ fun i hi => columns11_sat (f i) c hc), ?_⟩ | refine .inl ⟨_, _, rfl, sc_E19 (eachR32_sat (f := f) (q := fun i => f i c) (caps := [.ref false (.v (.agg ⟨[.int .i64 c]⟩)) 0]) (g := 124) 8 (by omega) ⟨fun _ => rfl, fun _ => rfl⟩ fun i hi => columns11_sat (f i) c hc), ?_⟩
  conv => whnf
  repeat (first | (refine go_E19 ?_; conv => whnf) | (refine lk_E19 ?_; conv => whnf))
  first | refine ⟨_, _, rfl, sc_E19 (sumQ32_sat (fun i => f i c) 8 (by omega) (fun i hi => hf i c hc) false), ?_⟩ | refine .inl ⟨_, _, rfl, sc_E19 (sumQ32_sat (fun i => f i c) 8 (by omega) (fun i hi => hf i c hc) false), ?_⟩
  conv => whnf
  repeat (first | (refine go_E19 ?_; conv => whnf) | (refine lk_E19 ?_; conv => whnf))
  first | refine ⟨rfl, _, rfl, ?_⟩ | refine ⟨_, rfl, ?_⟩
  rfl
theorem eachNI_sat {g : Nat} {caps : List D} {f : Int → Int} (xs : List Int) (hl : xs.length ≤ 1048576) (m : Bool) (hc : CapOk caps) (hg : ∀ i, i < xs.length → Sat Try.prog g (.v (.int .i64 (ix xs i)) :: caps) (.v (.int .i64 (f (ix xs i))))) :
    Sat Try.prog 119 [intsD m xs, .fn (.func g) [] caps] (intsD true (xs.map f)) := by
  refine satN_of_wp hMix tOk Try.func119 rfl rfl Try.ntmps119 rfl rfl Try.results119 (by kernel_rfl) ?_
  conv => whnf
  repeat (first | (refine go_E19 ?_; conv => whnf) | (refine lk_E19 ?_; conv => whnf))
  refine loop_rule (α := Nat) (fun i => [(1, .fn (.func g) [] caps), (5, .slc true 1 (19, 0, 0) 0 ((xs.take i).map f).length), (8, intsD m xs), (9, .v (.int .i64 xs.length)), (10, .v (.int .i64 i))]) (fun i => [((19, 0, 0), .v (.agg ⟨intsC ((xs.take i).map f)⟩))]) (fun i => i ≤ xs.length) (fun i => xs.length - i) (0) ?_ (sim_of (rn := [((19, 0, 0), nilId)]) rfl ?_ ?_) ?_
  · exact okt_E19
  · exact hold_E19
  · ((repeat' (first | exact trivial | apply And.intro)) <;> ((first | refine ⟨_, _, rfl, rfl, ?_⟩ ); first | rfl | ((exact cset (show [] = intsC [] from intsC_nil.symm)))))
  intro i hi
  have hml : ((xs.take i).map f).length = i := by simp; omega
  conv => whnf
  repeat (first | (refine go_E19 ?_; conv => whnf) | (refine lk_E19 ?_; conv => whnf))
  cases h : decide ((i : Int) < (xs.length : Int))
  · have hin : i = xs.length := by simp at h; omega
    subst hin
    rw [List.take_length]
    conv => whnf
    repeat (first | (refine go_E19 ?_; conv => whnf) | (refine lk_E19 ?_; conv => whnf))
    first | refine ⟨rfl, _, rfl, [_], rfl, ?_, rfl⟩ | refine ⟨_, rfl, [_], rfl, ?_, rfl⟩
    ((repeat' (first | exact trivial | apply And.intro)) <;> first | exact .inl rfl | exact .inr ⟨rfl, rfl⟩)
  have hin : i < xs.length := by simpa using h
  conv => whnf
  repeat (first | (refine go_E19 ?_; conv => whnf) | (refine lk_E19 ?_; conv => whnf))
  first | refine ⟨_, _, CapOk.one (by assumption) rfl, sc_E19 (hg i hin), ?_⟩ | refine .inl ⟨_, _, CapOk.one (by assumption) rfl, sc_E19 (hg i hin), ?_⟩
  conv => whnf
  repeat (first | (refine go_E19 ?_; conv => whnf) | (refine lk_E19 ?_; conv => whnf))
  have e2 : intsC ((xs.take i).map f) ++ [.int .i64 (f (ix xs i))] = intsC ((xs.take (i + 1)).map f) := by rw [itake_next hin, List.map_append, intsC_append, List.map_singleton, intsC_one]
  have hml' : ((xs.take (i + 1)).map f).length = i + 1 := by simp; omega
  refine ⟨i + 1, ?_, ?_, sim_of (rn := [((19, 0, 0), (19, 1, 0))]) rfl ?_ ?_⟩
  · (dsimp only; omega)
  · exact okt_E19
  · ((repeat' (first | exact trivial | apply And.intro)) <;> (first | rfl | (exact vslcS (by omega)) | exact leaf_E19))
  · ((repeat' (first | exact trivial | apply And.intro)) <;> ((first | refine ⟨_, _, rfl, rfl, ?_⟩ ); first | rfl | (exact cset e2)))
theorem columns_sat (r : Roof) (hr : r.In) (hb : Rb r) (f : Nat → Nat → Int) (hf : InM f) : Sat Try.prog 93 [roofD r, dripD f] (intsD true (qL (fun c => smT (fun i => f i c) 8) (cN r))) := by
  have hc := cN_le hb.1
  have e := upL_map (fun z => smT (fun i => f i z.toNat) 8) (cN r)
  have e2 : qL (fun c : Nat => smT (fun i => f i (c : Int).toNat) 8) (cN r) = qL (fun c => smT (fun i => f i c) 8) (cN r) := rfl
  rw [← e2, ← e]
  have hcell : (2 * r.w + 1 : Int) = ((cN r : Nat) : Int) := by unfold cN; omega
  have sC := cells_sat r hr hb
  rw [hcell] at sC
  refine satN_of_wp hMix tOk Try.func93 rfl rfl Try.ntmps93 rfl rfl Try.results93 (by kernel_rfl) ?_
  conv => whnf
  repeat (first | (refine go_E19 ?_; conv => whnf) | (refine lk_E19 ?_; conv => whnf))
  first | refine ⟨_, _, rfl, sc_E19 (sC), ?_⟩ | refine .inl ⟨_, _, rfl, sc_E19 (sC), ?_⟩
  conv => whnf
  repeat (first | (refine go_E19 ?_; conv => whnf) | (refine lk_E19 ?_; conv => whnf))
  first | refine ⟨_, _, rfl, sc_E19 (upTo_sat (cN r) (by omega)), ?_⟩ | refine .inl ⟨_, _, rfl, sc_E19 (upTo_sat (cN r) (by omega)), ?_⟩
  conv => whnf
  repeat (first | (refine go_E19 ?_; conv => whnf) | (refine lk_E19 ?_; conv => whnf))
  first | refine ⟨_, _, rfl, sc_E19 (eachNI_sat (f := fun z => smT (fun i => f i z.toNat) 8) (caps := [.ref false (dripD f) 0]) (g := 121) (upL (cN r)) (by simp; omega) false ⟨fun _ => rfl, fun _ => rfl⟩ (fun i hi => by rw [upL_ix (by simpa using hi)]; exact columns1_sat f hf i (by simp at hi; omega))), ?_⟩ | refine .inl ⟨_, _, rfl, sc_E19 (eachNI_sat (f := fun z => smT (fun i => f i z.toNat) 8) (caps := [.ref false (dripD f) 0]) (g := 121) (upL (cN r)) (by simp; omega) false ⟨fun _ => rfl, fun _ => rfl⟩ (fun i hi => by rw [upL_ix (by simpa using hi)]; exact columns1_sat f hf i (by simp at hi; omega))), ?_⟩
  conv => whnf
  repeat (first | (refine go_E19 ?_; conv => whnf) | (refine lk_E19 ?_; conv => whnf))
  first | refine ⟨rfl, _, rfl, [_], rfl, ?_, rfl⟩ | refine ⟨_, rfl, [_], rfl, ?_, rfl⟩
  ((repeat' (first | exact trivial | apply And.intro)) <;> first | exact .inl rfl | exact .inr ⟨rfl, rfl⟩)
theorem up64_sat (a b : Int) (ha : 0 ≤ a ∧ a ≤ 100000) (hb : 1 ≤ b ∧ b ≤ 100000) : Sat Try.prog 96 [.v (.int .i64 a), .v (.int .i64 b)] (.v (.int .i64 (upI a b))) := by
  have h1 := upI_facts ha.1 hb.1
  have h2 := upI_le ha.1 hb.1
  have e1 : IntKind.i64.wrap (a + b) = a + b := w64 (by omega) (by omega)
  have e2 : IntKind.i64.wrap (a + b - 1) = a + b - 1 := w64 (by omega) (by omega)
  have e3 : IntKind.i64.wrap ((a + b - 1).tdiv b) = upI a b := w64 (n := upI a b) (by omega) (by omega)
  refine sat_of_wp hMix tOk Try.func96 rfl rfl Try.ntmps96 rfl rfl Try.results96 (by kernel_rfl) ?_
  conv => whnf
  repeat (first | (refine go_E19 ?_; conv => whnf) | (refine lk_E19 ?_; conv => whnf))
  rw [e1, e2]
  conv => whnf
  repeat (first | (refine go_E19 ?_; conv => whnf) | (refine lk_E19 ?_; conv => whnf))
  first | refine ⟨rfl, _, rfl, ?_⟩ | refine ⟨_, rfl, ?_⟩
  skip
  rw [e3]; rfl
theorem pails1_sat (n s : Int) (hn : 0 ≤ n ∧ n ≤ 100000) (hs : 1 ≤ s ∧ s ≤ 10000) : Sat Try.prog 95 [.v (.int .i64 n), .ref false (.v (.agg ⟨[.int .i64 s]⟩)) 0] (.v (.int .i64 (upI n s))) := by
  refine sat_of_wp hMix tOk Try.func95 rfl rfl Try.ntmps95 rfl rfl Try.results95 (by kernel_rfl) ?_
  conv => whnf
  repeat (first | (refine go_E19 ?_; conv => whnf) | (refine lk_E19 ?_; conv => whnf))
  first | refine ⟨_, _, rfl, sc_E19 (up64_sat n s hn (by omega)), ?_⟩ | refine .inl ⟨_, _, rfl, sc_E19 (up64_sat n s hn (by omega)), ?_⟩
  conv => whnf
  repeat (first | (refine go_E19 ?_; conv => whnf) | (refine lk_E19 ?_; conv => whnf))
  first | refine ⟨rfl, _, rfl, ?_⟩ | refine ⟨_, rfl, ?_⟩
  rfl
theorem fill1_sat (n s : Int) (hn : 0 ≤ n ∧ n ≤ 100000) (hs : 1 ≤ s ∧ s ≤ 10000) : Sat Try.prog 99 [.v (.int .i64 n), .ref false (.v (.agg ⟨[.int .i64 s]⟩)) 0] (.v (.int .i64 (if n = 0 then 0 else upI s n))) := by
  refine sat_of_wp hMix tOk Try.func99 rfl rfl Try.ntmps99 rfl rfl Try.results99 (by kernel_rfl) ?_
  conv => whnf
  repeat (first | (refine go_E19 ?_; conv => whnf) | (refine lk_E19 ?_; conv => whnf))
  by_cases h : n = 0
  · rw [if_pos h, show (n == 0) = true by simpa using h]
    conv => whnf
    repeat (first | (refine go_E19 ?_; conv => whnf) | (refine lk_E19 ?_; conv => whnf))
    first | refine ⟨rfl, _, rfl, ?_⟩ | refine ⟨_, rfl, ?_⟩
    rfl
  · rw [if_neg h, show (n == 0) = false by simpa using h]
    conv => whnf
    repeat (first | (refine go_E19 ?_; conv => whnf) | (refine lk_E19 ?_; conv => whnf))
    first | refine ⟨_, _, rfl, sc_E19 (up64_sat s n (by omega) (by omega)), ?_⟩ | refine .inl ⟨_, _, rfl, sc_E19 (up64_sat s n (by omega) (by omega)), ?_⟩
    conv => whnf
    repeat (first | (refine go_E19 ?_; conv => whnf) | (refine lk_E19 ?_; conv => whnf))
    first | refine ⟨rfl, _, rfl, ?_⟩ | refine ⟨_, rfl, ?_⟩
    rfl
theorem isPailS {s : Int} (hs : 1 ≤ s ∧ s ≤ 10000) : Sat Try.prog 90 [.v (.int .i64 s)] (.v (.bool true)) := by
  have := within64_sat s 1 10000
  rw [show (decide (1 ≤ s) && decide (s ≤ 10000)) = true by simp; omega] at this
  refine sat_of_wp hMix tOk Try.func90 rfl rfl Try.ntmps90 rfl rfl Try.results90 (by kernel_rfl) ?_
  conv => whnf
  repeat (first | (refine go_E19 ?_; conv => whnf) | (refine lk_E19 ?_; conv => whnf))
  first | refine ⟨_, _, rfl, sc_E19 (this), ?_⟩ | refine .inl ⟨_, _, rfl, sc_E19 (this), ?_⟩
  conv => whnf
  repeat (first | (refine go_E19 ?_; conv => whnf) | (refine lk_E19 ?_; conv => whnf))
  first | refine ⟨rfl, _, rfl, ?_⟩ | refine ⟨_, rfl, ?_⟩
  rfl
theorem l02PailsS {r : Roof} (hr : r.In) {w : Nat → Int} (hw : RaiIn w) (hO : okN r w = true) {s : Int} (hs : 1 ≤ s ∧ s ≤ 10000) : Sat Try.prog 97 [.ref false (roofD r) 0, .ref false (raiD w) 0, .v (.int .i64 s)] (.v (.int .i64 0)) := by
  have sV := l02Ok_sat r hr w hw
  rw [hO] at sV
  have := l00In_sat s 1 10000
  rw [show (decide (s ≥ 1) && decide (s ≤ 10000)) = true by simp; omega] at this
  refine sat_of_wp hMix tOk Try.func97 rfl rfl Try.ntmps97 rfl rfl Try.results97 (by kernel_rfl) ?_
  conv => whnf
  repeat (first | (refine go_E19 ?_; conv => whnf) | (refine lk_E19 ?_; conv => whnf))
  first | refine ⟨_, _, rfl, sc_E19 (sV), ?_⟩ | refine .inl ⟨_, _, rfl, sc_E19 (sV), ?_⟩
  conv => whnf
  repeat (first | (refine go_E19 ?_; conv => whnf) | (refine lk_E19 ?_; conv => whnf))
  first | refine ⟨_, _, rfl, sc_E19 (this), ?_⟩ | refine .inl ⟨_, _, rfl, sc_E19 (this), ?_⟩
  conv => whnf
  repeat (first | (refine go_E19 ?_; conv => whnf) | (refine lk_E19 ?_; conv => whnf))
  first | refine ⟨rfl, _, rfl, ?_⟩ | refine ⟨_, rfl, ?_⟩
  rfl
theorem implPailsFor_sat (r : Roof) (hr : r.In) (w : Nat → Int) (hw : RaiIn w) (hO : okN r w = true) (s : Int) (hs : 1 ≤ s ∧ s ≤ 10000) : Sat Try.prog 39 [roofD r, raiD w, .v (.int .i64 s)] (.tup [.v (.int .i64 (plI r w s)), .v (.int .i64 0)]) := by
  have hw1 : W1 w := okN_w hO
  have hb := okR_bounds (okN_R hO)
  have hc := cN_le hb.1
  have hin := fun c (h : c < cN r) => clI_in r hw1 (c := c) (by omega)
  have sV := rainCode_sat r hr w hw true
  rw [show rnK r w true = 0 by unfold rnK; rw [hO]; rfl] at sV
  refine sat_of_wp hMix tOk Try.func39 rfl rfl Try.ntmps39 rfl rfl Try.results39 (by kernel_rfl) ?_
  conv => whnf
  repeat (first | (refine go_E19 ?_; conv => whnf) | (refine lk_E19 ?_; conv => whnf))
  first | refine ⟨_, _, rfl, sc_E19 (isPailS hs), ?_⟩ | refine .inl ⟨_, _, rfl, sc_E19 (isPailS hs), ?_⟩
  conv => whnf
  repeat (first | (refine go_E19 ?_; conv => whnf) | (refine lk_E19 ?_; conv => whnf))
  first | refine ⟨_, _, rfl, sc_E19 (sV), ?_⟩ | refine .inl ⟨_, _, rfl, sc_E19 (sV), ?_⟩
  conv => whnf
  repeat (first | (refine go_E19 ?_; conv => whnf) | (refine lk_E19 ?_; conv => whnf))
  first | refine ⟨_, _, rfl, sc_E19 (run_sat r hr hb w hw1), ?_⟩ | refine .inl ⟨_, _, rfl, sc_E19 (run_sat r hr hb w hw1), ?_⟩
  conv => whnf
  repeat (first | (refine go_E19 ?_; conv => whnf) | (refine lk_E19 ?_; conv => whnf))
  refine .inr ⟨dripC (dR r w), ⟨rfl, by show 0 + 136 ≤ _; simp, flow_plain⟩, ?_⟩
  conv => whnf
  repeat (first | (refine go_E19 ?_; conv => whnf) | (refine lk_E19 ?_; conv => whnf))
  first | refine ⟨_, _, rfl, sc_E19 (columns_sat r hr hb (dR r w) (dR_inM r hw1)), ?_⟩ | refine .inl ⟨_, _, rfl, sc_E19 (columns_sat r hr hb (dR r w) (dR_inM r hw1)), ?_⟩
  conv => whnf
  repeat (first | (refine go_E19 ?_; conv => whnf) | (refine lk_E19 ?_; conv => whnf))
  first | refine ⟨_, _, rfl, sc_E19 (eachII_sat (f := fun n => upI n s) (caps := [.ref false (.v (.agg ⟨[.int .i64 s]⟩)) 0]) (g := 95) (qL (clI r w) (cN r)) (by simp; omega) false ⟨fun _ => rfl, fun _ => rfl⟩ (fun i hi => by rw [qL_len] at hi; rw [qL_ix hi]; have := hin i hi; exact pails1_sat _ s (by omega) hs)), ?_⟩ | refine .inl ⟨_, _, rfl, sc_E19 (eachII_sat (f := fun n => upI n s) (caps := [.ref false (.v (.agg ⟨[.int .i64 s]⟩)) 0]) (g := 95) (qL (clI r w) (cN r)) (by simp; omega) false ⟨fun _ => rfl, fun _ => rfl⟩ (fun i hi => by rw [qL_len] at hi; rw [qL_ix hi]; have := hin i hi; exact pails1_sat _ s (by omega) hs)), ?_⟩
  conv => whnf
  repeat (first | (refine go_E19 ?_; conv => whnf) | (refine lk_E19 ?_; conv => whnf))
  rw [qL_map]
  first | refine ⟨_, _, rfl, sc_E19 (sumI_sat (fun c => upI (clI r w c) s) (cN r) (by omega) (fun i hi => by have h1 := hin i hi; have h2 := upI_le h1.1 hs.1; have h3 := upI_facts h1.1 hs.1; omega) false), ?_⟩ | refine .inl ⟨_, _, rfl, sc_E19 (sumI_sat (fun c => upI (clI r w c) s) (cN r) (by omega) (fun i hi => by have h1 := hin i hi; have h2 := upI_le h1.1 hs.1; have h3 := upI_facts h1.1 hs.1; omega) false), ?_⟩
  conv => whnf
  repeat (first | (refine go_E19 ?_; conv => whnf) | (refine lk_E19 ?_; conv => whnf))
  first | refine ⟨rfl, _, rfl, ?_⟩ | refine ⟨_, rfl, ?_⟩
  rfl
theorem implFillTimes_sat (r : Roof) (hr : r.In) (w : Nat → Int) (hw : RaiIn w) (hO : okN r w = true) (s : Int) (hs : 1 ≤ s ∧ s ≤ 10000) : Sat Try.prog 41 [roofD r, raiD w, .v (.int .i64 s)] (.tup [intsD true (qL (ftI r w s) (cN r)), .v (.int .i64 0)]) := by
  have hw1 : W1 w := okN_w hO
  have hb := okR_bounds (okN_R hO)
  have hc := cN_le hb.1
  have hin := fun c (h : c < cN r) => clI_in r hw1 (c := c) (by omega)
  have sV := rainCode_sat r hr w hw true
  rw [show rnK r w true = 0 by unfold rnK; rw [hO]; rfl] at sV
  have e : qL (ftI r w s) (cN r) = (qL (clI r w) (cN r)).map (fun n => if n = 0 then 0 else upI s n) := by rw [qL_map]; rfl
  rw [e]
  refine satN_of_wp hMix tOk Try.func41 rfl rfl Try.ntmps41 rfl rfl Try.results41 (by kernel_rfl) ?_
  conv => whnf
  repeat (first | (refine go_E19 ?_; conv => whnf) | (refine lk_E19 ?_; conv => whnf))
  first | refine ⟨_, _, rfl, sc_E19 (isPailS hs), ?_⟩ | refine .inl ⟨_, _, rfl, sc_E19 (isPailS hs), ?_⟩
  conv => whnf
  repeat (first | (refine go_E19 ?_; conv => whnf) | (refine lk_E19 ?_; conv => whnf))
  first | refine ⟨_, _, rfl, sc_E19 (sV), ?_⟩ | refine .inl ⟨_, _, rfl, sc_E19 (sV), ?_⟩
  conv => whnf
  repeat (first | (refine go_E19 ?_; conv => whnf) | (refine lk_E19 ?_; conv => whnf))
  first | refine ⟨_, _, rfl, sc_E19 (run_sat r hr hb w hw1), ?_⟩ | refine .inl ⟨_, _, rfl, sc_E19 (run_sat r hr hb w hw1), ?_⟩
  conv => whnf
  repeat (first | (refine go_E19 ?_; conv => whnf) | (refine lk_E19 ?_; conv => whnf))
  refine .inr ⟨dripC (dR r w), ⟨rfl, by show 0 + 136 ≤ _; simp, flow_plain⟩, ?_⟩
  conv => whnf
  repeat (first | (refine go_E19 ?_; conv => whnf) | (refine lk_E19 ?_; conv => whnf))
  first | refine ⟨_, _, rfl, sc_E19 (columns_sat r hr hb (dR r w) (dR_inM r hw1)), ?_⟩ | refine .inl ⟨_, _, rfl, sc_E19 (columns_sat r hr hb (dR r w) (dR_inM r hw1)), ?_⟩
  conv => whnf
  repeat (first | (refine go_E19 ?_; conv => whnf) | (refine lk_E19 ?_; conv => whnf))
  first | refine ⟨_, _, rfl, sc_E19 (eachII_sat (f := fun n => if n = 0 then 0 else upI s n) (caps := [.ref false (.v (.agg ⟨[.int .i64 s]⟩)) 0]) (g := 99) (qL (clI r w) (cN r)) (by simp; omega) false ⟨fun _ => rfl, fun _ => rfl⟩ (fun i hi => by rw [qL_len] at hi; rw [qL_ix hi]; have := hin i hi; exact fill1_sat _ s (by omega) hs)), ?_⟩ | refine .inl ⟨_, _, rfl, sc_E19 (eachII_sat (f := fun n => if n = 0 then 0 else upI s n) (caps := [.ref false (.v (.agg ⟨[.int .i64 s]⟩)) 0]) (g := 99) (qL (clI r w) (cN r)) (by simp; omega) false ⟨fun _ => rfl, fun _ => rfl⟩ (fun i hi => by rw [qL_len] at hi; rw [qL_ix hi]; have := hin i hi; exact fill1_sat _ s (by omega) hs)), ?_⟩
  conv => whnf
  repeat (first | (refine go_E19 ?_; conv => whnf) | (refine lk_E19 ?_; conv => whnf))
  first | refine ⟨rfl, _, rfl, [_, _], rfl, ?_, rfl⟩ | refine ⟨_, rfl, [_, _], rfl, ?_, rfl⟩
  ((repeat' (first | exact trivial | apply And.intro)) <;> first | exact .inl rfl | exact .inr ⟨rfl, rfl⟩)
theorem l02Across_sat (r : Roof) (hr : r.In) (hb : Rb r) (w : Nat → Int) (hw : W1 w) : Sat Try.prog 98 [.ref false (roofD r) 0, .ref false (raiD w) 0] (intsD true (qL (clI r w) (cN r))) := by
  have hin := dR_inM r hw
  have hc := cN_le hb.1
  have hcell : (2 * r.w + 1 : Int) = ((cN r : Nat) : Int) := by unfold cN; omega
  have sC := l01Cells_sat r hr hb
  rw [hcell] at sC
  refine sat_of_wp hMix tOk Try.func98 rfl rfl Try.ntmps98 rfl rfl Try.results98 (by kernel_rfl) ?_
  conv => whnf
  repeat (first | (refine go_E19 ?_; conv => whnf) | (refine lk_E19 ?_; conv => whnf))
  first | refine ⟨_, _, rfl, sc_E19 (l02Run_sat r hr hb w hw), ?_⟩ | refine .inl ⟨_, _, rfl, sc_E19 (l02Run_sat r hr hb w hw), ?_⟩
  conv => whnf
  repeat (first | (refine go_E19 ?_; conv => whnf) | (refine lk_E19 ?_; conv => whnf))
  refine loop_rule (α := Nat) (fun c => [(0, .ref false (roofD r) 0), (5, .ptr (5, 0, 0) 0), (8, .slc true 1 (41, 0, 0) 0 c), (9, .v (.int .i64 c))]) (fun c => [((5, 0, 0), dripD (dR r w)), ((41, 0, 0), .v (.agg ⟨intsC (qL (clI r w) c)⟩))]) (fun c => c ≤ cN r) (fun c => cN r - c) (0) ?_ (sim_of (rn := [((5, 0, 0), (5, 0, 0)), ((41, 0, 0), (19, 0, 0))]) rfl ?_ ?_) ?_
  · exact okt_E19
  · exact hold_E19
  · ((repeat' (first | exact trivial | apply And.intro)) <;> ((first | refine ⟨_, _, rfl, rfl, ?_⟩ ); first | rfl | (first | exact csplice (by simp) | exact cset (show [] = intsC [] from intsC_nil.symm))))
  intro c hcc
  have hql := qL_len (clI r w) c
  conv => whnf
  repeat (first | (refine go_E19 ?_; conv => whnf) | (refine lk_E19 ?_; conv => whnf))
  first | refine ⟨_, _, rfl, sc_E19 (sC), ?_⟩ | refine .inl ⟨_, _, rfl, sc_E19 (sC), ?_⟩
  conv => whnf
  repeat (first | (refine go_E19 ?_; conv => whnf) | (refine lk_E19 ?_; conv => whnf))
  cases h1 : decide ((c : Int) < ((cN r : Nat) : Int))
  · have h8 : c = cN r := by simp at h1; omega
    subst h8
    conv => whnf
    repeat (first | (refine go_E19 ?_; conv => whnf) | (refine lk_E19 ?_; conv => whnf))
    first | refine ⟨rfl, _, rfl, ?_⟩ | refine ⟨_, rfl, ?_⟩
    skip
    unfold intsD
    rw [hql]; rfl
  have h8 : c < cN r := by simpa using h1
  conv => whnf
  repeat (first | (refine go_E19 ?_; conv => whnf) | (refine lk_E19 ?_; conv => whnf))
  refine loop_rule (α := Nat) (fun i => [(0, .ref false (roofD r) 0), (5, .ptr (5, 0, 0) 0), (8, .slc true 1 (41, 0, 0) 0 c), (9, .v (.int .i64 c)), (10, .v (.int .i64 (smT (fun i => dR r w i c) i))), (11, .v (.int .i64 i))]) (fun i => [((5, 0, 0), dripD (dR r w)), ((41, 0, 0), .v (.agg ⟨intsC (qL (clI r w) c)⟩))]) (fun i => i ≤ 8) (fun i => 8 - i) (0) ?_ (sim_of (rn := [((5, 0, 0), (5, 0, 0)), ((41, 0, 0), (41, 0, 0))]) rfl ?_ ?_) ?_
  · exact okt_E19
  · exact hold_E19
  · ((repeat' (first | exact trivial | apply And.intro)) <;> ((first | refine ⟨_, _, rfl, rfl, ?_⟩ ); rfl))
  intro i hi
  conv => whnf
  repeat (first | (refine go_E19 ?_; conv => whnf) | (refine lk_E19 ?_; conv => whnf))
  cases h2 : decide ((i : Int) < 8)
  · have h17 : i = 8 := by simp at h2; omega
    subst h17
    conv => whnf
    repeat (first | (refine go_E19 ?_; conv => whnf) | (refine lk_E19 ?_; conv => whnf))
    have e2 : intsC (qL (clI r w) c) ++ [.int .i64 (smT (fun i => dR r w i c) 8)] = intsC (qL (clI r w) (c + 1)) := by rw [qL_next, intsC_append, intsC_one]; rfl
    refine ⟨c + 1, ?_, ?_, sim_of (rn := [((5, 0, 0), (5, 0, 0)), ((41, 0, 0), (41, 1, 0))]) rfl ?_ ?_⟩
    · (dsimp only; omega)
    · exact okt_E19
    · exact hold_E19
    · ((repeat' (first | exact trivial | apply And.intro)) <;> ((first | refine ⟨_, _, rfl, rfl, ?_⟩ ); first | rfl | (exact cset e2)))
  have h17 : i < 8 := by simp at h2; omega
  have t3 := hin i c (by omega)
  have t4 := smT_in (p := fun i => dR r w i c) (b := 1000) (m := 8) (fun i _ => hin i c (by omega)) i (by omega)
  conv => whnf
  repeat (first | (refine go_E19 ?_; conv => whnf) | (refine lk_E19 ?_; conv => whnf))
  have e : smT (fun i => dR r w i c) (i + 1) = IntKind.i64.wrap (smT (fun i => dR r w i c) i + IntKind.i64.wrap (dR r w i c)) := by
    rw [w64 (n := dR r w i c) (by omega) (by omega), w64 (by omega) (by omega), smT]
  refine ⟨i + 1, ?_, ?_, sim_of (rn := [((5, 0, 0), (5, 0, 0)), ((41, 0, 0), (41, 0, 0))]) rfl ?_ ?_⟩
  · (dsimp only; omega)
  · exact okt_E19
  · ((repeat' (first | exact trivial | apply And.intro)) <;> (first | rfl | (exact vintS e) | exact leaf_E19))
  · ((repeat' (first | exact trivial | apply And.intro)) <;> ((first | refine ⟨_, _, rfl, rfl, ?_⟩ ); rfl))
theorem specCellDrips_sat (r : Roof) (hr : r.In) (w : Nat → Int) (hw : RaiIn w) (hO : okN r w = true) : Sat Try.prog 42 [roofD r, raiD w] (.tup [intsD true (qL (clI r w) (cN r)), .v (.int .i64 0)]) := by
  have hw1 : W1 w := okN_w hO
  have hb := okR_bounds (okN_R hO)
  have sV := l02Ok_sat r hr w hw
  rw [hO] at sV
  refine sat_of_wp hMix tOk Try.func42 rfl rfl Try.ntmps42 rfl rfl Try.results42 (by kernel_rfl) ?_
  conv => whnf
  repeat (first | (refine go_E19 ?_; conv => whnf) | (refine lk_E19 ?_; conv => whnf))
  first | refine ⟨_, _, rfl, sc_E19 (sV), ?_⟩ | refine .inl ⟨_, _, rfl, sc_E19 (sV), ?_⟩
  conv => whnf
  repeat (first | (refine go_E19 ?_; conv => whnf) | (refine lk_E19 ?_; conv => whnf))
  first | refine ⟨_, _, rfl, sc_E19 (l02Across_sat r hr hb w hw1), ?_⟩ | refine .inl ⟨_, _, rfl, sc_E19 (l02Across_sat r hr hb w hw1), ?_⟩
  conv => whnf
  repeat (first | (refine go_E19 ?_; conv => whnf) | (refine lk_E19 ?_; conv => whnf))
  first | refine ⟨rfl, _, rfl, ?_⟩ | refine ⟨_, rfl, ?_⟩
  rfl
theorem specPailsFor_sat (r : Roof) (hr : r.In) (w : Nat → Int) (hw : RaiIn w) (hO : okN r w = true) (s : Int) (hs : 1 ≤ s ∧ s ≤ 10000) : Sat Try.prog 40 [roofD r, raiD w, .v (.int .i64 s)] (.tup [.v (.int .i64 (plI r w s)), .v (.int .i64 0)]) := by
  have hw1 : W1 w := okN_w hO
  have hb := okR_bounds (okN_R hO)
  have hc := cN_le hb.1
  have hin := fun c (h : c < cN r) => clI_in r hw1 (c := c) (by omega)
  refine sat_of_wp hMix tOk Try.func40 rfl rfl Try.ntmps40 rfl rfl Try.results40 (by kernel_rfl) ?_
  conv => whnf
  repeat (first | (refine go_E19 ?_; conv => whnf) | (refine lk_E19 ?_; conv => whnf))
  first | refine ⟨_, _, rfl, sc_E19 (l02PailsS hr hw hO hs), ?_⟩ | refine .inl ⟨_, _, rfl, sc_E19 (l02PailsS hr hw hO hs), ?_⟩
  conv => whnf
  repeat (first | (refine go_E19 ?_; conv => whnf) | (refine lk_E19 ?_; conv => whnf))
  first | refine ⟨_, _, rfl, sc_E19 (l02Across_sat r hr hb w hw1), ?_⟩ | refine .inl ⟨_, _, rfl, sc_E19 (l02Across_sat r hr hb w hw1), ?_⟩
  conv => whnf
  repeat (first | (refine go_E19 ?_; conv => whnf) | (refine lk_E19 ?_; conv => whnf))
  refine loop_rule (α := Nat) (fun i => [(2, .v (.int .i64 s)), (9, .v (.int .i64 (smT (fun c => upI (clI r w c) s) i))), (10, .slc true 1 (17, 0, 0) 0 (cN r)), (11, .v (.int .i64 i))]) (fun i => [((17, 0, 0), .v (.agg ⟨intsC (qL (clI r w) (cN r))⟩))]) (fun i => i ≤ cN r) (fun i => cN r - i) (0) ?_ (sim_of (rn := [((17, 0, 0), (17, 0, 0))]) rfl ?_ ?_) ?_
  · exact okt_E19
  · ((repeat' (first | exact trivial | apply And.intro)) <;> (first | rfl | (exact vslcS (by simp)) | exact leaf_E19))
  · ((repeat' (first | exact trivial | apply And.intro)) <;> ((first | refine ⟨_, _, rfl, rfl, ?_⟩ ); rfl))
  intro i hi
  have hql := qL_len (clI r w) (cN r)
  conv => whnf
  repeat (first | (refine go_E19 ?_; conv => whnf) | (refine lk_E19 ?_; conv => whnf))
  cases h1 : decide ((i : Int) < ((cN r : Nat) : Int))
  · have h8 : i = cN r := by simp at h1; omega
    subst h8
    conv => whnf
    repeat (first | (refine go_E19 ?_; conv => whnf) | (refine lk_E19 ?_; conv => whnf))
    first | refine ⟨rfl, _, rfl, ?_⟩ | refine ⟨_, rfl, ?_⟩
    rfl
  have h8 : i < cN r := by simpa using h1
  have h2 := hin i h8
  have h3 := upI_facts h2.1 hs.1
  have h4 := upI_le h2.1 hs.1
  have h5 := smT_in (p := fun c => upI (clI r w c) s) (b := 8000) (m := cN r) (fun c hcc => by have h1 := hin c hcc; have h2 := upI_le h1.1 hs.1; have h3 := upI_facts h1.1 hs.1; omega) i (by omega)
  have h6 : i * 8000 ≤ 17 * 8000 := Nat.mul_le_mul (by omega) (by omega)
  have e1 : IntKind.i64.wrap (clI r w i + s) = clI r w i + s := w64 (by omega) (by omega)
  have e2 : IntKind.i64.wrap (clI r w i + s - 1) = clI r w i + s - 1 := w64 (by omega) (by omega)
  have e3 : IntKind.i64.wrap ((clI r w i + s - 1).tdiv s) = upI (clI r w i) s := w64 (n := upI (clI r w i) s) (by omega) (by omega)
  have e4 : smT (fun c => upI (clI r w c) s) (i + 1) = IntKind.i64.wrap (smT (fun c => upI (clI r w c) s) i + upI (clI r w i) s) := by rw [w64 (by omega) (by omega)]; rfl
  conv => whnf
  repeat (first | (refine go_E19 ?_; conv => whnf) | (refine lk_E19 ?_; conv => whnf))
  rw [qL_ix h8, e1, e2]
  conv => whnf
  repeat (first | (refine go_E19 ?_; conv => whnf) | (refine lk_E19 ?_; conv => whnf))
  rw [e3]
  refine ⟨i + 1, ?_, ?_, sim_of (rn := [((17, 0, 0), (17, 0, 0))]) rfl ?_ ?_⟩
  · (dsimp only; omega)
  · exact okt_E19
  · ((repeat' (first | exact trivial | apply And.intro)) <;> (first | rfl | (exact vintS e4) | exact leaf_E19))
  · ((repeat' (first | exact trivial | apply And.intro)) <;> ((first | refine ⟨_, _, rfl, rfl, ?_⟩ ); rfl))
end Go.Proofs.Ytecjkbgepbefcaa
