/- Contracts: the text of colours, both sides, and the law. -/
import Derived.Test.YtndlknhakdadjaaC7
set_option linter.unusedVariables false
set_option linter.unusedSimpArgs false
namespace Go.V
def bitR (x : Int) (k : Nat) : Bool := (x.fdiv (2 ^ (min k IntKind.u8.bits))).tmod 2 == 1
def txtRow (acc : ByteArray) (x : Int) : Nat → ByteArray
  | 0 => acc
  | k + 1 => txtRow acc x k ++ (if bitR x k = true then ⟨#[114]⟩ else ⟨#[98]⟩)
def txt (f : Nat → Int) (w : Nat) : Nat → ByteArray
  | 0 => ⟨#[]⟩
  | c + 1 => txtRow (txt f w c) (f c) w ++ ⟨#[10]⟩
theorem txtRow_size (acc : ByteArray) (x : Int) : ∀ k, (txtRow acc x k).size = acc.size + k
  | 0 => rfl
  | k + 1 => by
    simp only [txtRow, ByteArray.size_append, txtRow_size acc x k]
    split <;> (show _ + 1 = _; omega)
theorem txt_size (f : Nat → Int) (w : Nat) : ∀ c, (txt f w c).size = c * (w + 1)
  | 0 => by rw [Nat.zero_mul]; rfl
  | c + 1 => by
    simp only [txt, ByteArray.size_append, txtRow_size, txt_size f w c]
    show c * (w + 1) + w + 1 = _
    rw [Nat.succ_mul]; omega
theorem and1_fact : ∀ k : Nat, k < 8 → ∀ x : Nat, x < 256 → (IntKind.u8.wrap (BitVec.ofInt IntKind.u8.bits ((x : Int).fdiv (2 ^ min k IntKind.u8.bits)) &&& BitVec.ofInt IntKind.u8.bits 1).toNat == 1) = bitR x k := by decide +kernel
def colText (r : Roof) (f : Nat → Int) : ByteArray := if okC r f = true then txt f r.w.toNat r.h.toNat else ⟨#[]⟩
end Go.V
namespace Go.Proofs.Ytndlknhakdadjaa
open Go.V
end Go.Proofs.Ytndlknhakdadjaa
