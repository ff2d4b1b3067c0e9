/- Contracts: valid words. -/
import Derived.Test.YtndlknhakdadjaaB1
set_option linter.unusedVariables false
set_option linter.unusedSimpArgs false
namespace Go.V
def anyB (p : Int → Bool) (b : ByteArray) : Bool := (List.range b.size).any fun i => p (byteAt b i)
def chOk (n : Int) : Bool := n == 114 || n == 98
def okW (b : ByteArray) : Bool := !anyB (fun n => !chOk n) b && (decide ((b.size : Int) ≥ 1) && decide ((b.size : Int) ≤ 12))
def bytesD (b : ByteArray) : D := .v (.agg ⟨byteVals b⟩)
theorem byteVals_len (b : ByteArray) : (byteVals b).length = b.size := by unfold byteVals; simp
theorem nth_bytes {b : ByteArray} {i : Nat} (h : i < b.size) : nth (byteVals b) i = some (.int .u8 (byteAt b i)) := by
  rw [nth_eq]
  have h' : i < b.data.size := h
  simp [byteVals, byteAt, List.getD, Array.getElem?_eq_getElem h']
theorem byteAt_range (b : ByteArray) (i : Nat) : 0 ≤ byteAt b i ∧ byteAt b i ≤ 255 := by
  unfold byteAt
  have := (b.data.toList.getD i 0).toNat_lt
  omega
theorem anyB_true {p : Int → Bool} {b : ByteArray} {i : Nat} (hi : i < b.size) (h : p (byteAt b i) = true) : anyB p b = true := by
  unfold anyB; rw [List.any_eq_true]; exact ⟨i, by simpa using hi, h⟩
theorem anyB_false {p : Int → Bool} {b : ByteArray} (h : ∀ i, i < b.size → p (byteAt b i) = false) : anyB p b = false := by
  unfold anyB; rw [List.any_eq_false]; intro i hi; rw [h i (by simpa using hi)]; simp
def idxB (p : Int → Bool) (b : ByteArray) : Int := match (List.range b.size).find? (fun i => p (byteAt b i)) with | some i => (i : Int) | none => -1
theorem idxB_some {p : Int → Bool} {b : ByteArray} {i : Nat} (hi : i < b.size) (h : p (byteAt b i) = true) (hall : ∀ j, j < i → p (byteAt b j) = false) : idxB p b = i := by
  have : (List.range b.size).find? (fun i => p (byteAt b i)) = some i := by
    rw [List.find?_range_eq_some]
    exact ⟨h, by simpa using hi, fun j hj => by simp [hall j hj]⟩
  unfold idxB; rw [this]
theorem idxB_none {p : Int → Bool} {b : ByteArray} (hall : ∀ j, j < b.size → p (byteAt b j) = false) : idxB p b = -1 := by
  have : (List.range b.size).find? (fun i => p (byteAt b i)) = none := by
    rw [List.find?_eq_none]
    intro j hj
    simp [hall j (by simpa using hj)]
  unfold idxB; rw [this]
theorem idxB_any (p : Int → Bool) (b : ByteArray) : decide (idxB p b ≥ 0) = anyB p b := by
  unfold idxB anyB
  cases h : (List.range b.size).find? (fun i => p (byteAt b i)) with
  | none => rw [List.find?_eq_none] at h; symm; simpa using h
  | some i =>
    have := List.find?_some h
    have hm := List.mem_of_find?_eq_some h
    symm
    simp only [ge_iff_le, Int.natCast_nonneg, decide_true]
    rw [List.any_eq_true]
    exact ⟨i, hm, this⟩
end Go.V
namespace Go.Proofs.Ytndlknhakdadjaa
open Go.V

theorem withinInt_sat (n lo hi : Int) : Sat Try.prog 124 [.v (.int .i64 n), .v (.int .i64 lo), .v (.int .i64 hi)] (.v (.bool (decide (lo ≤ n) && decide (n ≤ hi)))) := by
  refine sat_of_wp hMix tOk Try.func124 rfl rfl Try.ntmps124 rfl rfl Try.results124 (by kernel_rfl) ?_
  conv => whnf
  cases h1 : decide (lo ≤ n)
  · exact ⟨rfl, _, rfl, rfl⟩
  · conv => whnf
    cases h2 : decide (n ≤ hi) <;> exact ⟨rfl, _, rfl, rfl⟩

theorem l07Word_sat (b : ByteArray) (hb : b.size ≤ 1048576) : Sat Try.prog 51 [.v (.string b)] (.v (.bool (okW b))) := by
  refine sat_of_wp hMix tOk Try.func51 rfl rfl Try.ntmps51 rfl rfl Try.results51 (by kernel_rfl) ?_
  conv => whnf
  refine loop_rule (α := Nat) (fun i => [(0, .v (.string b)), (3, .v (.int .i64 i))]) (fun _ => []) (fun i => i ≤ b.size ∧ ∀ j, j < i → chOk (byteAt b j) = true) (fun i => b.size - i) 0 ⟨by omega, by omega⟩ (sim_of (rn := []) rfl ⟨rfl, rfl, trivial⟩ trivial) ?_
  rintro i ⟨hi, hall⟩
  conv => whnf
  cases h4 : decide ((i : Int) < (b.size : Int))
  · conv => whnf
    refine ⟨_, _, rfl, l00In_sat _ _ _, ?_⟩
    conv => whnf
    refine ⟨rfl, _, rfl, ?_⟩
    have : anyB (fun n => !chOk n) b = false := anyB_false fun j hj => by rw [hall j (by simp at h4; omega)]; rfl
    simp only [okW, this, Bool.not_false, Bool.true_and]; rfl
  conv => whnf
  have hlt : i < b.size := by simp at h4; omega
  refine ⟨⟨by omega, by omega⟩, ?_⟩
  conv => whnf
  have e : ((i : Int)).toNat = i := by omega
  rw [e]
  have bad : chOk (byteAt b i) = false → okW b = false := fun h => by
    have : anyB (fun n => !chOk n) b = true := anyB_true hlt (by rw [h]; rfl)
    simp only [okW, this, Bool.not_true, Bool.false_and]
  have good : chOk (byteAt b i) = true → ∃ y, b.size - y < b.size - i ∧ (y ≤ b.size ∧ ∀ j, j < y → chOk (byteAt b j) = true) ∧ y = i + 1 := fun h => ⟨i + 1, by omega, ⟨by omega, fun j hj => by
    by_cases hji : j = i
    · subst hji; exact h
    · exact hall j (by omega)⟩, rfl⟩
  have hkk : some (D.v (Value.int .i64 ((i + 1 : Nat) : Int))) = some (D.v (.int .i64 (IntKind.i64.wrap (i + 1)))) := by
    congr 1; exact vint (by rw [w64 (by omega) (by omega)]; omega)
  cases h5 : (byteAt b i != 114)
  · conv => whnf
    have h : chOk (byteAt b i) = true := by simp at h5; simp [chOk, h5]
    obtain ⟨y, h1, h2, rfl⟩ := good h
    exact ⟨_, h1, h2, sim_of (rn := []) rfl ⟨rfl, hkk, trivial⟩ trivial⟩
  · conv => whnf
    refine ⟨⟨by omega, by omega⟩, ?_⟩
    conv => whnf
    rw [e]
    cases h6 : (byteAt b i != 98)
    · conv => whnf
      have h : chOk (byteAt b i) = true := by simp at h6; simp [chOk, h6]
      obtain ⟨y, h1, h2, rfl⟩ := good h
      exact ⟨_, h1, h2, sim_of (rn := []) rfl ⟨rfl, hkk, trivial⟩ trivial⟩
    · conv => whnf
      refine ⟨rfl, _, rfl, ?_⟩
      rw [bad (by simp at h5 h6; simp [chOk, h5, h6])]; rfl

section
variable {g : Nat} {p : Int → Bool}
theorem notP_sat (hg : ∀ x, 0 ≤ x → x ≤ 255 → Sat Try.prog g [.v (.int .u8 x)] (.v (.bool (p x)))) (x : Int) (h0 : 0 ≤ x) (h1 : x ≤ 255) :
    Sat Try.prog 176 [.v (.int .u8 x), .ref false (.agg [.fn (.func g) [] []]) 0] (.v (.bool (!p x))) := by
  refine sat_of_wp hMix tOk Try.func176 rfl rfl Try.ntmps176 rfl rfl Try.results176 (by kernel_rfl) ?_
  conv => whnf
  refine .inl ⟨_, _, rfl, hg x h0 h1, ?_⟩
  exact ⟨rfl, _, rfl, rfl⟩

theorem indexFunc_sat (hg : ∀ x, 0 ≤ x → x ≤ 255 → Sat Try.prog g [.v (.int .u8 x)] (.v (.bool (p x)))) (b : ByteArray) (hb : b.size ≤ 1048576) :
    Sat Try.prog 201 [.row false 1 (bytesD b) b.size, .fn (.func 176) [] [.ref false (.agg [.fn (.func g) [] []]) 0]] (.v (.int .i64 (idxB (fun x => !p x) b))) := by
  refine sat_of_wp hMix tOk Try.func201 rfl rfl Try.ntmps201 rfl rfl Try.results201 (by kernel_rfl) ?_
  conv => whnf
  refine loop_rule (α := Nat) (fun i => [(0, .row false 1 (bytesD b) b.size), (1, .fn (.func 176) [] [.ref false (.agg [.fn (.func g) [] []]) 0]), (7, .v (.int .i64 b.size)), (8, .v (.int .i64 i))]) (fun _ => []) (fun i => i ≤ b.size ∧ ∀ j, j < i → p (byteAt b j) = true) (fun i => b.size - i) 0 ⟨by omega, by omega⟩ (sim_of (rn := []) rfl ⟨rfl, rfl, rfl, rfl, trivial⟩ trivial) ?_
  rintro i ⟨hi, hall⟩
  conv => whnf
  cases h4 : decide ((i : Int) < (b.size : Int))
  · conv => whnf
    refine ⟨rfl, _, rfl, ?_⟩
    rw [idxB_none fun j hj => by rw [hall j (by simp at h4; omega)]; rfl]; rfl
  conv => whnf
  have hlt : i < b.size := by simp at h4; omega
  refine ⟨⟨by omega, by omega⟩, ?_⟩
  conv => whnf
  have g1 : nth (byteVals b) ((i : Int).toNat * 1) = some (.int .u8 (byteAt b i)) := by
    rw [show (i : Int).toNat * 1 = i by omega]; exact nth_bytes hlt
  refine optK_of g1 ?_
  conv => whnf
  have hr := byteAt_range b i
  refine .inl ⟨_, _, rfl, notP_sat hg _ hr.1 hr.2, ?_⟩
  conv => whnf
  cases h5 : p (byteAt b i)
  · conv => whnf
    refine ⟨rfl, _, rfl, ?_⟩
    rw [idxB_some hlt (by rw [h5]; rfl) fun j hj => by rw [hall j hj]; rfl]; rfl
  · conv => whnf
    have hkk : some (D.v (Value.int .i64 ((i + 1 : Nat) : Int))) = some (D.v (.int .i64 (IntKind.i64.wrap (i + 1)))) := by
      congr 1; exact vint (by rw [w64 (by omega) (by omega)]; omega)
    refine ⟨i + 1, by dsimp only; omega, ⟨by omega, fun j hj => ?_⟩, sim_of (rn := []) rfl ⟨rfl, rfl, rfl, hkk, trivial⟩ trivial⟩
    by_cases hji : j = i
    · subst hji; exact h5
    · exact hall j (by omega)

theorem containsFunc_sat (hg : ∀ x, 0 ≤ x → x ≤ 255 → Sat Try.prog g [.v (.int .u8 x)] (.v (.bool (p x)))) (b : ByteArray) (hb : b.size ≤ 1048576) :
    Sat Try.prog 175 [.row false 1 (bytesD b) b.size, .fn (.func 176) [] [.ref false (.agg [.fn (.func g) [] []]) 0]] (.v (.bool (anyB (fun x => !p x) b))) := by
  refine sat_of_wp hMix tOk Try.func175 rfl rfl Try.ntmps175 rfl rfl Try.results175 (by kernel_rfl) ?_
  conv => whnf
  refine ⟨_, _, rfl, indexFunc_sat hg b hb, ?_⟩
  conv => whnf
  refine ⟨rfl, _, rfl, ?_⟩
  rw [← idxB_any]; rfl

theorem areAll_sat (hg : ∀ x, 0 ≤ x → x ≤ 255 → Sat Try.prog g [.v (.int .u8 x)] (.v (.bool (p x)))) (b : ByteArray) (hb : b.size ≤ 1048576) :
    Sat Try.prog 125 [.row false 1 (bytesD b) b.size, .fn (.func g) [] []] (.v (.bool (!anyB (fun x => !p x) b))) := by
  refine sat_of_wp hMix tOk Try.func125 rfl rfl Try.ntmps125 rfl rfl Try.results125 (by kernel_rfl) ?_
  conv => whnf
  refine ⟨_, _, rfl, containsFunc_sat hg b hb, ?_⟩
  exact ⟨rfl, _, rfl, rfl⟩
end

theorem chOk_sat (x : Int) (h0 : 0 ≤ x) (h1 : x ≤ 255) : Sat Try.prog 126 [.v (.int .u8 x)] (.v (.bool (chOk x))) := by
  refine sat_of_wp hMix tOk Try.func126 rfl rfl Try.ntmps126 rfl rfl Try.results126 (by kernel_rfl) ?_
  conv => whnf
  cases h : (x == 114)
  · conv => whnf
    refine ⟨rfl, _, rfl, ?_⟩
    simp only [chOk, h, Bool.false_or]; rfl
  · conv => whnf
    refine ⟨rfl, _, rfl, ?_⟩
    simp only [chOk, h, Bool.true_or]; rfl

theorem implValidWord_sat (b : ByteArray) (hb : b.size ≤ 1048576) : Sat Try.prog 57 [.v (.string b)] (.v (.bool (okW b))) := by
  refine sat_of_wp hMix tOk Try.func57 rfl rfl Try.ntmps57 rfl rfl Try.results57 (by kernel_rfl) ?_
  conv => whnf
  refine ⟨_, _, rfl, withinInt_sat _ _ _, ?_⟩
  conv => whnf
  cases h : (decide (1 ≤ (b.size : Int)) && decide ((b.size : Int) ≤ 12))
  · conv => whnf
    refine ⟨rfl, _, rfl, ?_⟩
    have : (decide ((b.size : Int) ≥ 1) && decide ((b.size : Int) ≤ 12)) = false := h
    simp only [okW, this, Bool.and_false]; rfl
  · conv => whnf
    refine ⟨_, _, rfl, areAll_sat chOk_sat b hb, ?_⟩
    conv => whnf
    refine ⟨rfl, _, rfl, ?_⟩
    have : (decide ((b.size : Int) ≥ 1) && decide ((b.size : Int) ≤ 12)) = true := h
    simp only [okW, this, Bool.and_true]; rfl

end Go.Proofs.Ytndlknhakdadjaa
