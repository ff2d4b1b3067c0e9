/- Contracts: patterns found again, the reference's side, and the law. -/
import Derived.Test.YtndlknhakdadjaaC24
set_option linter.unusedVariables false
set_option linter.unusedSimpArgs false
namespace Go.V
theorem shl_pow {n : Nat} (h : n ≤ 5) : IntKind.i64.wrap (1 * 2 ^ (min (IntKind.u64.wrap (n : Int)).toNat IntKind.i64.bits)) = ((2 ^ n : Nat) : Int) := by
  rw [wu64 (by omega) (by omega), Int.toNat_natCast]
  have : n = 0 ∨ n = 1 ∨ n = 2 ∨ n = 3 ∨ n = 4 ∨ n = 5 := by omega
  rcases this with rfl | rfl | rfl | rfl | rfl | rfl <;> decide
theorem shr_bit {j k : Nat} (h : k ≤ 5) : (((j : Int).fdiv (2 ^ (min (IntKind.u64.wrap (k : Int)).toNat IntKind.i64.bits))).tmod 2) = ((j / 2 ^ k % 2 : Nat) : Int) := by
  rw [wu64 (by omega) (by omega), Int.toNat_natCast, show min k IntKind.i64.bits = k by simp [IntKind.bits]; omega]
  rw [show ((2 : Int) ^ k) = ((2 ^ k : Nat) : Int) by simp, Int.fdiv_eq_ediv_of_nonneg _ (Int.natCast_nonneg _)]
  rfl
def brB : ByteArray := ⟨#[98, 114]⟩
theorem br_letter {x : Nat} (h : x < 2) : brB.extract (x : Int).toNat (((x + 1 : Nat) : Int)).toNat = if x % 2 = 1 then letR else letB := by
  have : x = 0 ∨ x = 1 := by omega
  rcases this with rfl | rfl <;> rfl
theorem word_step {t n j : Nat} (h : t < n) : word t (j / 2 ^ (n - t)) ++ (if j / 2 ^ (n - 1 - t) % 2 % 2 = 1 then letR else letB) = word (t + 1) (j / 2 ^ (n - (t + 1))) := by
  rw [show n - 1 - t = n - (t + 1) by omega]
  show _ = word t (j / 2 ^ (n - (t + 1)) / 2) ++ (if j / 2 ^ (n - (t + 1)) % 2 = 1 then letR else letB)
  rw [Nat.div_div_eq_div_mul, ← Nat.pow_succ, show (n - (t + 1)).succ = n - t by omega, Nat.mod_mod]
end Go.V
namespace Go.Proofs.Ytndlknhakdadjaa
open Go.V
theorem pofD_eq (r : Roof) (f : Nat → Int) (m : Int) : ∃ (b : ByteArray) (x y : Int), pofD r f m = .tup [.v (.string b), .v (.int .i64 x), .v (.int .i64 y)] := by
  unfold pofD
  split
  · split
    · split
      · exact ⟨_, _, _, rfl⟩
      · exact ⟨_, _, _, rfl⟩
    · exact ⟨_, _, _, rfl⟩
  · exact ⟨_, _, _, rfl⟩
end Go.Proofs.Ytndlknhakdadjaa
