/- Contracts: the text of colours, both sides, and the law. -/
import Derived.Test.YtlpgfemmbnkaiaaC7
set_option linter.unusedVariables false
set_option linter.unusedSimpArgs false
namespace Go.V
def bitR (x : Int) (k : Nat) : Bool := (x.fdiv (2 ^ (min k IntKind.u8.bits))).tmod 2 == 1
def txtRow (acc : ByteArray) (x : Int) : Nat → ByteArray
  | 0 => acc
  | k + 1 => txtRow acc x k ++ (if bitR x k = true then ⟨#[114]⟩ else ⟨#[98]⟩)
def txt (f : Nat → Int) (w : Nat) : Nat → ByteArray
  | 0 => ⟨#[]⟩
  | c + 1 => txtRow (txt f w c) (f c) w ++ ⟨#[10]⟩
theorem txtRow_size (acc : ByteArray) (x : Int) : ∀ k, (txtRow acc x k).size = acc.size + k
  | 0 => rfl
  | k + 1 => by
    simp only [txtRow, ByteArray.size_append, txtRow_size acc x k]
    split <;> (show _ + 1 = _; omega)
theorem txt_size (f : Nat → Int) (w : Nat) : ∀ c, (txt f w c).size = c * (w + 1)
  | 0 => by rw [Nat.zero_mul]; rfl
  | c + 1 => by
    simp only [txt, ByteArray.size_append, txtRow_size, txt_size f w c]
    show c * (w + 1) + w + 1 = _
    rw [Nat.succ_mul]; omega
theorem and1_fact : ∀ k : Nat, k < 8 → ∀ x : Nat, x < 256 → (IntKind.u8.wrap (BitVec.ofInt IntKind.u8.bits ((x : Int).fdiv (2 ^ min k IntKind.u8.bits)) &&& BitVec.ofInt IntKind.u8.bits 1).toNat == 1) = bitR x k := by decide +kernel
def colText (r : Roof) (f : Nat → Int) : ByteArray := if okC r f = true then txt f r.w.toNat r.h.toNat else ⟨#[]⟩
end Go.V
namespace Go.Proofs.Ytlpgfemmbnkaiaa
open Go.V
theorem l07Text_sat (r : Roof) (hr : r.In) (f : Nat → Int) (hf : RowIn f) (hb : (1 ≤ r.w ∧ r.w ≤ 8) ∧ (1 ≤ r.h ∧ r.h ≤ 8) ∧ r.s ≤ 1) :
    Sat Try.prog 76 [.ref false (roofD r) 0, .ref false (row8D f) 0] (.v (.string (txt f r.w.toNat r.h.toNat))) := by
  have e3 : IntKind.i64.wrap r.h = r.h := w64 (by omega) (by omega)
  refine sat_of_wp hMix tOk Try.func76 rfl rfl Try.ntmps76 rfl rfl Try.results76 (by kernel_rfl) ?_
  conv => whnf
  refine loop_rule (α := Nat) (fun c => [(0, .ref false (roofD r) 0), (1, .ref false (row8D f) 0), (5, .v (.string (txt f r.w.toNat c))), (6, .v (.int .i64 c))]) (fun _ => []) (fun c => c ≤ r.h.toNat) (fun c => 8 - c) 0 (Nat.zero_le _)
    (sim_of (rn := []) rfl ⟨rfl, rfl, rfl, rfl, trivial⟩ trivial) ?_
  intro c hc
  conv => whnf
  rw [e3]
  cases h4 : decide ((c : Int) < r.h)
  · have h8 : c = r.h.toNat := by simp at h4; omega
    subst h8
    conv => whnf
    exact ⟨rfl, _, rfl, rfl⟩
  conv => whnf
  have hch : (c : Int) < r.h := by simpa using h4
  have h8 : c < 8 := by omega
  refine loop_rule (α := Nat) (fun k => [(0, .ref false (roofD r) 0), (1, .ref false (row8D f) 0), (5, .v (.string (txtRow (txt f r.w.toNat c) (f c) k))), (6, .v (.int .i64 c)), (7, .v (.int .i8 k))]) (fun _ => []) (fun k => k ≤ r.w.toNat) (fun k => 8 - k) 0 (Nat.zero_le _)
    (sim_of (rn := []) rfl ⟨rfl, rfl, rfl, rfl, rfl, trivial⟩ trivial) ?_
  intro k hk
  have hsz : (txtRow (txt f r.w.toNat c) (f c) k).size = c * (r.w.toNat + 1) + k := by rw [txtRow_size, txt_size]
  have hmul : c * (r.w.toNat + 1) ≤ 8 * 9 := Nat.mul_le_mul (by omega) (by omega)
  conv => whnf
  cases h5 : decide ((k : Int) < r.w)
  · have hkw : k = r.w.toNat := by simp at h5; omega
    subst hkw
    conv => whnf
    refine ⟨?_, ?_⟩
    · rw [hsz]; show ((_ + 1 : Nat) : Int) ≤ 9223372036854775807; omega
    conv => whnf
    exact ⟨c + 1, by dsimp only; omega, by dsimp only; omega, sim_of (rn := []) rfl ⟨rfl, rfl, rfl, succ64 (by omega), trivial⟩ trivial⟩
  conv => whnf
  have hkw : (k : Int) < r.w := by simpa using h5
  refine ⟨⟨by omega, by omega⟩, ?_⟩
  conv => whnf
  refine optK_of (row8_get (k := c) (by simp) h8) ?_
  conv => whnf
  have ek : IntKind.u64.wrap (k : Int) = k := wu64 (by omega) (by omega)
  rw [ek]
  refine ⟨by omega, ?_⟩
  conv => whnf
  refine ⟨by decide, ?_⟩
  conv => whnf
  rw [Int.toNat_natCast]
  cases h6 : ((f c).fdiv (2 ^ min k IntKind.u8.bits)).tmod 2 == 1
  · conv => whnf
    refine ⟨?_, ?_⟩
    · rw [hsz]; show ((_ + 1 : Nat) : Int) ≤ 9223372036854775807; omega
    conv => whnf
    have ht : txtRow (txt f r.w.toNat c) (f c) (k + 1) = txtRow (txt f r.w.toNat c) (f c) k ++ ⟨#[98]⟩ := by simp only [txtRow, bitR, h6]; simp
    refine ⟨k + 1, by dsimp only; omega, by dsimp only; omega, sim_of (rn := []) rfl ⟨rfl, rfl, ?_, rfl, succ8 (by omega), trivial⟩ trivial⟩
    show some (D.v (.string (txtRow (txt f r.w.toNat c) (f c) (k + 1)))) = _
    rw [ht]; rfl
  · conv => whnf
    refine ⟨?_, ?_⟩
    · rw [hsz]; show ((_ + 1 : Nat) : Int) ≤ 9223372036854775807; omega
    conv => whnf
    have ht : txtRow (txt f r.w.toNat c) (f c) (k + 1) = txtRow (txt f r.w.toNat c) (f c) k ++ ⟨#[114]⟩ := by simp only [txtRow, bitR, h6]; simp
    refine ⟨k + 1, by dsimp only; omega, by dsimp only; omega, sim_of (rn := []) rfl ⟨rfl, rfl, ?_, rfl, succ8 (by omega), trivial⟩ trivial⟩
    show some (D.v (.string (txtRow (txt f r.w.toNat c) (f c) (k + 1)))) = _
    rw [ht]; rfl

theorem specText_sat (r : Roof) (hr : r.In) (f : Nat → Int) (hf : RowIn f) : Sat Try.prog 31 [roofD r, row8D f] (.v (.string (colText r f))) := by
  refine sat_of_wp hMix tOk Try.func31 rfl rfl Try.ntmps31 rfl rfl Try.results31 (by kernel_rfl) ?_
  conv => whnf
  refine ⟨_, _, rfl, l07Colours_sat r hr f hf, ?_⟩
  conv => whnf
  cases h1 : okC r f
  · refine ⟨rfl, _, rfl, ?_⟩
    simp only [colText, h1]; rfl
  have hb := h1
  simp only [okC, Bool.and_eq_true] at hb
  conv => whnf
  refine ⟨_, _, rfl, l07Text_sat r hr f hf (okR_bounds hb.1), ?_⟩
  conv => whnf
  refine ⟨rfl, _, rfl, ?_⟩
  simp only [colText, h1, if_true]; rfl

theorem coloursText_sat (r : Roof) (hr : r.In) (f : Nat → Int) (hf : RowIn f) (hb : (1 ≤ r.w ∧ r.w ≤ 8) ∧ (1 ≤ r.h ∧ r.h ≤ 8) ∧ r.s ≤ 1) :
    Sat Try.prog 77 [roofD r, row8D f] (.v (.string (txt f r.w.toNat r.h.toNat))) := by
  refine sat_of_wp hMix tOk Try.func77 rfl rfl Try.ntmps77 rfl rfl Try.results77 (by kernel_rfl) ?_
  conv => whnf
  refine loop_rule (α := Nat) (fun c => [(2, .ptr (2, 0, 0) 0), (3, .ptr (3, 0, 0) 0), (5, .v (.string (txt f r.w.toNat c))), (9, .v (.int .i8 r.h)), (10, .v (.int .i8 c))]) (fun _ => [((2, 0, 0), roofD r), ((3, 0, 0), row8D f)]) (fun c => c ≤ r.h.toNat) (fun c => 8 - c) 0 (Nat.zero_le _)
    (sim_of (rn := [((2, 0, 0), (2, 0, 0)), ((3, 0, 0), (3, 0, 0))]) rfl ⟨rfl, rfl, rfl, rfl, rfl, trivial⟩ ⟨⟨_, _, rfl, rfl, rfl⟩, ⟨_, _, rfl, rfl, rfl⟩, trivial⟩) ?_
  intro c hc
  conv => whnf
  cases h4 : decide ((c : Int) < r.h)
  · have h8 : c = r.h.toNat := by simp at h4; omega
    subst h8
    conv => whnf
    exact ⟨rfl, _, rfl, rfl⟩
  conv => whnf
  have hch : (c : Int) < r.h := by simpa using h4
  have h8 : c < 8 := by omega
  refine loop_rule (α := Nat) (fun k => [(2, .ptr (2, 0, 0) 0), (3, .ptr (3, 0, 0) 0), (5, .v (.string (txtRow (txt f r.w.toNat c) (f c) k))), (6, .v (.int .i8 c)), (9, .v (.int .i8 r.h)), (10, .v (.int .i8 c)), (14, .v (.int .i8 r.w)), (15, .v (.int .i8 k))]) (fun _ => [((2, 0, 0), roofD r), ((3, 0, 0), row8D f)]) (fun k => k ≤ r.w.toNat) (fun k => 8 - k) 0 (Nat.zero_le _)
    (sim_of (rn := [((2, 0, 0), (2, 0, 0)), ((3, 0, 0), (3, 0, 0))]) rfl ⟨rfl, rfl, rfl, rfl, rfl, rfl, rfl, rfl, trivial⟩ ⟨⟨_, _, rfl, rfl, rfl⟩, ⟨_, _, rfl, rfl, rfl⟩, trivial⟩) ?_
  intro k hk
  have hsz : (txtRow (txt f r.w.toNat c) (f c) k).size = c * (r.w.toNat + 1) + k := by rw [txtRow_size, txt_size]
  have hmul : c * (r.w.toNat + 1) ≤ 8 * 9 := Nat.mul_le_mul (by omega) (by omega)
  conv => whnf
  cases h5 : decide ((k : Int) < r.w)
  · have hkw : k = r.w.toNat := by simp at h5; omega
    subst hkw
    conv => whnf
    refine ⟨?_, ?_⟩
    · rw [hsz]; show ((_ + 1 : Nat) : Int) ≤ 9223372036854775807; omega
    conv => whnf
    exact ⟨c + 1, by dsimp only; omega, by dsimp only; omega, sim_of (rn := [((2, 0, 0), (2, 0, 0)), ((3, 0, 0), (3, 0, 0))]) rfl ⟨rfl, rfl, rfl, rfl, succ8 (by omega), trivial⟩ ⟨⟨_, _, rfl, rfl, rfl⟩, ⟨_, _, rfl, rfl, rfl⟩, trivial⟩⟩
  conv => whnf
  have hkw : (k : Int) < r.w := by simpa using h5
  refine ⟨⟨by omega, by omega⟩, ?_⟩
  conv => whnf
  refine optK_of (row8_get (k := c) (by simp) h8) ?_
  conv => whnf
  refine ⟨by omega, ?_⟩
  conv => whnf
  rw [Int.toNat_natCast]
  have hfc := hf.t c
  obtain ⟨x, hx⟩ := eq_toNat hfc.1
  have hbit : (IntKind.u8.wrap (BitVec.ofInt IntKind.u8.bits ((f c).fdiv (2 ^ min k IntKind.u8.bits)) &&& BitVec.ofInt IntKind.u8.bits 1).toNat == 1) = bitR (f c) k := by
    rw [hx]; exact and1_fact k (by omega) x (by omega)
  rw [hbit]
  cases h6 : bitR (f c) k
  · conv => whnf
    refine ⟨?_, ?_⟩
    · rw [hsz]; show ((_ + 1 : Nat) : Int) ≤ 9223372036854775807; omega
    conv => whnf
    have ht : txtRow (txt f r.w.toNat c) (f c) (k + 1) = txtRow (txt f r.w.toNat c) (f c) k ++ ⟨#[98]⟩ := by simp only [txtRow, h6]; simp
    refine ⟨k + 1, by dsimp only; omega, by dsimp only; omega, sim_of (rn := [((2, 0, 0), (2, 0, 0)), ((3, 0, 0), (3, 0, 0))]) rfl ⟨rfl, rfl, ?_, rfl, rfl, rfl, rfl, succ8 (by omega), trivial⟩ ⟨⟨_, _, rfl, rfl, rfl⟩, ⟨_, _, rfl, rfl, rfl⟩, trivial⟩⟩
    show some (D.v (.string (txtRow (txt f r.w.toNat c) (f c) (k + 1)))) = _
    rw [ht]; rfl
  · conv => whnf
    refine ⟨?_, ?_⟩
    · rw [hsz]; show ((_ + 1 : Nat) : Int) ≤ 9223372036854775807; omega
    conv => whnf
    have ht : txtRow (txt f r.w.toNat c) (f c) (k + 1) = txtRow (txt f r.w.toNat c) (f c) k ++ ⟨#[114]⟩ := by simp only [txtRow, h6]; simp
    refine ⟨k + 1, by dsimp only; omega, by dsimp only; omega, sim_of (rn := [((2, 0, 0), (2, 0, 0)), ((3, 0, 0), (3, 0, 0))]) rfl ⟨rfl, rfl, ?_, rfl, rfl, rfl, rfl, succ8 (by omega), trivial⟩ ⟨⟨_, _, rfl, rfl, rfl⟩, ⟨_, _, rfl, rfl, rfl⟩, trivial⟩⟩
    show some (D.v (.string (txtRow (txt f r.w.toNat c) (f c) (k + 1)))) = _
    rw [ht]; rfl

theorem implText_sat (r : Roof) (hr : r.In) (f : Nat → Int) (hf : RowIn f) : Sat Try.prog 32 [roofD r, row8D f] (.v (.string (colText r f))) := by
  have e0 : ((roofC r).drop 0).take 67 = roofC r := take_drop0 (by simp [roofC])
  have e1 : ((row8 f).drop 0).take 8 = row8 f := take_drop0 (by simp)
  have cv : Sat Try.prog 24 [D.v (.agg ⟨((roofC r).drop 0).take 67⟩), D.v (.agg ⟨((row8 f).drop 0).take 8⟩)] (.v (.bool (okC r f))) := by rw [e0, e1]; exact validColours_sat r hr f hf
  refine sat_of_wp hMix tOk Try.func32 rfl rfl Try.ntmps32 rfl rfl Try.results32 (by kernel_rfl) ?_
  conv => whnf
  refine ⟨by simp [roofC], ?_⟩
  conv => whnf
  refine ⟨by simp, ?_⟩
  conv => whnf
  refine ⟨_, _, rfl, cv, ?_⟩
  conv => whnf
  cases h1 : okC r f
  · refine ⟨rfl, _, rfl, ?_⟩
    simp only [colText, h1]; rfl
  have hb := h1
  simp only [okC, Bool.and_eq_true] at hb
  have ct : Sat Try.prog 77 [D.v (.agg ⟨((roofC r).drop 0).take 67⟩), D.v (.agg ⟨((row8 f).drop 0).take 8⟩)] (.v (.string (txt f r.w.toNat r.h.toNat))) := by rw [e0, e1]; exact coloursText_sat r hr f hf (okR_bounds hb.1)
  conv => whnf
  refine ⟨by simp [roofC], ?_⟩
  conv => whnf
  refine ⟨by simp, ?_⟩
  conv => whnf
  refine ⟨_, _, rfl, ct, ?_⟩
  conv => whnf
  refine ⟨rfl, _, rfl, ?_⟩
  simp only [colText, h1, if_true]; rfl

theorem fnExactColoursText_sat (r : Roof) (hr : r.In) (f : Nat → Int) (hf : RowIn f) : Sat Try.prog 7 [roofD r, row8D f] (.v (.bool true)) := by
  have e0 : ((roofC r).drop 0).take 67 = roofC r := take_drop0 (by simp [roofC])
  have e1 : ((row8 f).drop 0).take 8 = row8 f := take_drop0 (by simp)
  have cr : Sat Try.prog 22 [D.v (.agg ⟨((roofC r).drop 0).take 67⟩)] (roofD r) := by rw [e0]; exact toRoof_sat r
  have ca : Sat Try.prog 23 [D.v (.agg ⟨((row8 f).drop 0).take 8⟩)] (row8D f) := by rw [e1]; exact toColours_sat f
  refine sat_of_wp hMix tOk Try.func7 rfl rfl Try.ntmps7 rfl rfl Try.results7 (by kernel_rfl) ?_
  conv => whnf
  refine ⟨by simp [roofC], ?_⟩
  conv => whnf
  refine ⟨_, _, rfl, cr, ?_⟩
  conv => whnf
  refine ⟨by simp [row8D], ?_⟩
  conv => whnf
  refine ⟨_, _, rfl, ca, ?_⟩
  conv => whnf
  refine ⟨_, _, rfl, specText_sat r hr f hf, ?_⟩
  conv => whnf
  refine ⟨by simp [roofC], ?_⟩
  conv => whnf
  refine ⟨_, _, rfl, cr, ?_⟩
  conv => whnf
  refine ⟨by simp [row8D], ?_⟩
  conv => whnf
  refine ⟨_, _, rfl, ca, ?_⟩
  conv => whnf
  refine ⟨_, _, rfl, implText_sat r hr f hf, ?_⟩
  conv => whnf
  have : (!((colText r f).toList == (colText r f).toList)) = false := by simp
  rw [this]
  exact ⟨rfl, _, rfl, rfl⟩
end Go.Proofs.Ytlpgfemmbnkaiaa
