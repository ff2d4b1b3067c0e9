/- Contracts: how many tiles are red, both sides, and the law. -/
import Derived.Test.YtndlknhakdadjaaC8
set_option linter.unusedVariables false
set_option linter.unusedSimpArgs false
namespace Go.V
theorem tab_zero (f : Nat → Value) : tab 0 f = [] := by rw [tab_def]; rfl
theorem tab_snoc (n : Nat) (f : Nat → Value) : tab n f ++ [f n] = tab (n + 1) f := by
  rw [tab_def, tab_def, List.range_succ, List.map_append]; rfl
def cntK (x : Int) : Nat → Int
  | 0 => 0
  | k + 1 => cntK x k + (x.fdiv (2 ^ (min k IntKind.u8.bits))).tmod 2
def cntC (f : Nat → Int) : Nat → Int
  | 0 => 0
  | c + 1 => cntC f c + cntK (f c) 8
theorem cntK_fact : ∀ k : Nat, k < 9 → ∀ x : Nat, x < 256 → 0 ≤ cntK x k ∧ cntK x k ≤ k := by decide +kernel
theorem shr8_fact : ∀ k : Nat, k < 9 → ∀ x : Nat, x < 256 → 0 ≤ (x : Int).fdiv (2 ^ (min k IntKind.u8.bits)) ∧ (x : Int).fdiv (2 ^ (min k IntKind.u8.bits)) ≤ 255 := by decide +kernel
theorem cntK_bound {f : Nat → Int} (hf : RowIn f) (c : Nat) {k : Nat} (hk : k < 9) : 0 ≤ cntK (f c) k ∧ cntK (f c) k ≤ k := by
  have := hf.t c
  obtain ⟨x, hx⟩ := eq_toNat this.1
  rw [hx]; exact cntK_fact k hk x (by omega)
theorem shr8_bound {f : Nat → Int} (hf : RowIn f) (c : Nat) {k : Nat} (hk : k < 9) : 0 ≤ (f c).fdiv (2 ^ (min k IntKind.u8.bits)) ∧ (f c).fdiv (2 ^ (min k IntKind.u8.bits)) ≤ 255 := by
  have := hf.t c
  obtain ⟨x, hx⟩ := eq_toNat this.1
  rw [hx]; exact shr8_fact k hk x (by omega)
theorem cntC_bound {f : Nat → Int} (hf : RowIn f) : ∀ c : Nat, 0 ≤ cntC f c ∧ cntC f c ≤ c * 8
  | 0 => by simp [cntC]
  | c + 1 => by
    have := cntC_bound hf c
    have h2 := cntK_bound hf c (k := 8) (by omega)
    simp only [cntC]
    omega
end Go.V
namespace Go.Proofs.Ytndlknhakdadjaa
open Go.V
theorem l07Count_sat (f : Nat → Int) (hf : RowIn f) : Sat Try.prog 121 [.ref false (row8D f) 0] (.v (.int .i64 (cntC f 8))) := by
  refine sat_of_wp hMix tOk Try.func121 rfl rfl Try.ntmps121 rfl rfl Try.results121 (by kernel_rfl) ?_
  conv => whnf
  refine loop_rule (α := Nat) (fun c => [(0, .ref false (row8D f) 0), (3, .v (.int .i64 (cntC f c))), (4, .v (.int .i64 c))]) (fun _ => []) (fun c => c ≤ 8) (fun c => 8 - c) 0 (Nat.zero_le _)
    (sim_of (rn := []) rfl ⟨rfl, rfl, rfl, trivial⟩ trivial) ?_
  intro c hc
  conv => whnf
  cases h4 : decide ((c : Int) < 8)
  · have h8 : c = 8 := by simp at h4; omega
    subst h8
    exact ⟨rfl, _, rfl, rfl⟩
  conv => whnf
  have h8 : c < 8 := by simp at h4; omega
  have hcb := cntC_bound hf c
  refine loop_rule (α := Nat) (fun k => [(0, .ref false (row8D f) 0), (3, .v (.int .i64 (cntC f c + cntK (f c) k))), (4, .v (.int .i64 c)), (5, .v (.int .i64 k))]) (fun _ => []) (fun k => k ≤ 8) (fun k => 8 - k) 0 (Nat.zero_le _)
    (sim_of (rn := []) rfl ⟨rfl, ?_, rfl, rfl, trivial⟩ trivial) ?_
  · show some (D.v (.int .i64 (cntC f c + 0))) = _
    rw [Int.add_zero]; rfl
  intro k hk
  conv => whnf
  cases h5 : decide ((k : Int) < 8)
  · have hk8 : k = 8 := by simp at h5; omega
    subst hk8
    conv => whnf
    exact ⟨c + 1, by dsimp only; omega, by dsimp only; omega, sim_of (rn := []) rfl ⟨rfl, rfl, succ64 (by omega), trivial⟩ trivial⟩
  conv => whnf
  have hk8 : k < 8 := by simp at h5; omega
  refine ⟨⟨by omega, by omega⟩, ?_⟩
  conv => whnf
  refine optK_of (row8_get (k := c) (by simp) h8) ?_
  conv => whnf
  have ek : IntKind.u64.wrap (k : Int) = k := wu64 (by omega) (by omega)
  rw [ek]
  refine ⟨by omega, ?_⟩
  conv => whnf
  refine ⟨by decide, ?_⟩
  conv => whnf
  have hs := shr8_bound hf c (k := k) (by omega)
  have hkb := cntK_bound hf c (k := k + 1) (by omega)
  have e5 : IntKind.i64.wrap ((f c).fdiv (2 ^ (min k IntKind.u8.bits))) = (f c).fdiv (2 ^ (min k IntKind.u8.bits)) := w64 (by omega) (by omega)
  refine ⟨k + 1, by dsimp only; omega, by dsimp only; omega, sim_of (rn := []) rfl ⟨rfl, ?_, rfl, succ64 (by omega), trivial⟩ trivial⟩
  show some (D.v (.int .i64 (cntC f c + cntK (f c) (k + 1)))) = some (D.v (.int .i64 (IntKind.i64.wrap (cntC f c + cntK (f c) k + (IntKind.i64.wrap ((f c).fdiv (2 ^ (min (k : Int).toNat IntKind.u8.bits)))).tmod 2))))
  rw [Int.toNat_natCast, e5]
  congr 1
  refine vint ?_
  have hstep : cntK (f c) (k + 1) = cntK (f c) k + ((f c).fdiv (2 ^ (min k IntKind.u8.bits))).tmod 2 := rfl
  rw [Int.add_assoc, ← hstep, w64 (by omega) (by omega)]

theorem onesCount8_sat (x : Int) (h0 : 0 ≤ x) (h1 : x ≤ 255) : Sat Try.prog 180 [.v (.int .u8 x)] (.v (.int .i64 (cntK x 8))) := by
  refine sat_of_wp hMix tOk Try.func180 rfl rfl Try.ntmps180 rfl rfl Try.results180 (by kernel_rfl) ?_
  conv => whnf
  refine ⟨⟨h0, Int.lt_of_lt_of_le (show x < 256 by omega) (by decide +kernel)⟩, ?_⟩
  conv => whnf
  refine ⟨rfl, _, rfl, ?_⟩
  refine vint ?_
  obtain ⟨n, rfl⟩ := eq_toNat h0
  have hn : n < 256 := by omega
  clear h0 h1
  revert n
  decide +kernel

theorem count1_sat (x : Int) (h0 : 0 ≤ x) (h1 : x ≤ 255) : Sat Try.prog 179 [.v (.int .u8 x)] (.v (.int .i64 (cntK x 8))) := by
  refine sat_of_wp hMix tOk Try.func179 rfl rfl Try.ntmps179 rfl rfl Try.results179 (by kernel_rfl) ?_
  conv => whnf
  refine ⟨_, _, rfl, onesCount8_sat x h0 h1, ?_⟩
  exact ⟨rfl, _, rfl, rfl⟩

theorem each8_sat {g : Nat} {q : Int → Int} (hg : ∀ x, 0 ≤ x → x ≤ 255 → Sat Try.prog g [.v (.int .u8 x)] (.v (.int .i64 (q x)))) (n : Nat) (hn : n ≤ 1000) (f : Nat → Int) (hf : RowIn f) :
    Sat Try.prog 178 [.row false 1 (.v (.agg ⟨tab n fun i => .int .u8 (f i)⟩)) n, .fn (.func g) [] []] (.row true 1 (.v (.agg ⟨tab n fun i => .int .i64 (q (f i))⟩)) n) := by
  refine sat_of_wp hMix tOk Try.func178 rfl rfl Try.ntmps178 rfl rfl Try.results178 (by kernel_rfl) ?_
  conv => whnf
  refine loop_rule (α := Nat) (fun i => [(1, .fn (.func g) [] []), (5, .slc true 1 (19, 0, 0) 0 i), (8, .row false 1 (.v (.agg ⟨tab n fun i => .int .u8 (f i)⟩)) n), (9, .v (.int .i64 n)), (10, .v (.int .i64 i))])
    (fun i => [((19, 0, 0), .v (.agg ⟨tab i fun i => .int .i64 (q (f i))⟩))]) (fun i => i ≤ n) (fun i => n - i) 0 (Nat.zero_le _)
    (sim_of (rn := [((19, 0, 0), nilId)]) rfl ⟨rfl, rfl, rfl, rfl, rfl, trivial⟩ ⟨⟨_, _, rfl, rfl, ?_⟩, trivial⟩) ?_
  · rw [tab_zero]; rfl
  intro i hi
  conv => whnf
  cases h4 : decide ((i : Int) < (n : Int))
  · have h8 : i = n := by simp at h4; omega
    subst h8
    conv => whnf
    refine ⟨rfl, _, rfl, ?_⟩
    rfl
  conv => whnf
  have h8 : i < n := by simp at h4; omega
  refine ⟨⟨by omega, by omega⟩, ?_⟩
  conv => whnf
  have g1 : nth (tab n fun i => Value.int .u8 (f i)) ((i : Int).toNat * 1) = some (.int .u8 (f i)) := by
    rw [show (i : Int).toNat * 1 = i by omega]; exact nth_tab h8
  refine optK_of g1 ?_
  conv => whnf
  have ht := hf.t i
  refine .inl ⟨_, _, rfl, hg _ ht.1 ht.2, ?_⟩
  conv => whnf
  refine ⟨⟨by show (i + 1) * 8 ≤ 140737488355328; omega, by omega⟩, ?_⟩
  conv => whnf
  refine ⟨i + 1, by dsimp only; omega, by dsimp only; omega, sim_of (rn := [((19, 0, 0), (19, 1, 0))]) rfl ⟨rfl, rfl, rfl, rfl, succ64 (by omega), trivial⟩ ⟨⟨_, _, rfl, rfl, ?_⟩, trivial⟩⟩
  show some (D.v (.agg ⟨(tab i fun i => .int .i64 (q (f i))) ++ [.int .i64 (q (f i))]⟩)) = _
  rw [tab_snoc i fun i => .int .i64 (q (f i))]

def sumTo (p : Nat → Int) : Nat → Int
  | 0 => 0
  | n + 1 => sumTo p n + p n
theorem sum_sat (n : Nat) (hn : n ≤ 1000) (p : Nat → Int) (hp : ∀ i, 0 ≤ p i ∧ p i ≤ 1000) : Sat Try.prog 177 [.row false 1 (.v (.agg ⟨tab n fun i => .int .i64 (p i)⟩)) n] (.v (.int .i64 (sumTo p n))) := by
  have hb : ∀ i : Nat, 0 ≤ sumTo p i ∧ sumTo p i ≤ i * 1000 := by
    intro i
    induction i with
    | zero => simp [sumTo]
    | succ i ih => have := hp i; simp only [sumTo]; omega
  refine sat_of_wp hMix tOk Try.func177 rfl rfl Try.ntmps177 rfl rfl Try.results177 (by kernel_rfl) ?_
  conv => whnf
  refine loop_rule (α := Nat) (fun i => [(3, .v (.int .i64 (sumTo p i))), (6, .row false 1 (.v (.agg ⟨tab n fun i => .int .i64 (p i)⟩)) n), (7, .v (.int .i64 n)), (8, .v (.int .i64 i))])
    (fun i => []) (fun i => i ≤ n) (fun i => n - i) 0 (Nat.zero_le _)
    (sim_of (rn := []) rfl ⟨rfl, rfl, rfl, rfl, trivial⟩ trivial) ?_
  intro i hi
  conv => whnf
  cases h4 : decide ((i : Int) < (n : Int))
  · have h8 : i = n := by simp at h4; omega
    subst h8
    exact ⟨rfl, _, rfl, rfl⟩
  conv => whnf
  have h8 : i < n := by simp at h4; omega
  refine ⟨⟨by omega, by omega⟩, ?_⟩
  conv => whnf
  have g1 : nth (tab n fun i => Value.int .i64 (p i)) ((i : Int).toNat * 1) = some (.int .i64 (p i)) := by
    rw [show (i : Int).toNat * 1 = i by omega]; exact nth_tab h8
  refine optK_of g1 ?_
  conv => whnf
  have h1 := hb i
  have h2 := hp i
  refine ⟨i + 1, by dsimp only; omega, by dsimp only; omega, sim_of (rn := []) rfl ⟨?_, rfl, rfl, succ64 (by omega), trivial⟩ trivial⟩
  show some (D.v (.int .i64 (sumTo p i + p i))) = some (D.v (.int .i64 (IntKind.i64.wrap (sumTo p i + p i))))
  rw [w64 (by omega) (by omega)]

theorem sumTo_cnt (f : Nat → Int) : ∀ n, sumTo (fun i => cntK (f i) 8) n = cntC f n
  | 0 => rfl
  | n + 1 => by simp only [sumTo, cntC, sumTo_cnt f n]

theorem count_sat (f : Nat → Int) (hf : RowIn f) : Sat Try.prog 127 [row8D f] (.v (.int .i64 (cntC f 8))) := by
  have e1 : ((row8 f).drop (0 + (0 : Int).toNat * 1)).take (8 * 1) = row8 f := take_drop0 (by simp)
  have c1 : Sat Try.prog 178 [.row false 1 (.v (.agg ⟨((row8 f).drop (0 + (0 : Int).toNat * 1)).take (8 * 1)⟩)) 8, .fn (.func 179) [] []] (.row true 1 (.v (.agg ⟨tab 8 fun i => .int .i64 (cntK (f i) 8)⟩)) 8) := by
    rw [e1]; exact each8_sat (q := fun x => cntK x 8) count1_sat 8 (by omega) f hf
  have c2 : Sat Try.prog 177 [.row false 1 (.v (.agg ⟨((tab 8 fun i => .int .i64 (cntK (f i) 8)).drop 0).take (8 * 1)⟩)) 8] (.v (.int .i64 (cntC f 8))) := by
    rw [take_drop0 (by simp), ← sumTo_cnt]
    exact sum_sat 8 (by omega) (fun i => cntK (f i) 8) fun i => by
      have := cntK_bound hf i (k := 8) (by omega)
      omega
  refine sat_of_wp hMix tOk Try.func127 rfl rfl Try.ntmps127 rfl rfl Try.results127 (by kernel_rfl) ?_
  conv => whnf
  refine ⟨⟨by decide, by decide, by decide, by show 8 ≤ (row8 f).length; simp⟩, ?_⟩
  conv => whnf
  refine ⟨_, _, rfl, c1, ?_⟩
  conv => whnf
  refine ⟨_, _, rfl, c2, ?_⟩
  exact ⟨rfl, _, rfl, rfl⟩

end Go.Proofs.Ytndlknhakdadjaa
