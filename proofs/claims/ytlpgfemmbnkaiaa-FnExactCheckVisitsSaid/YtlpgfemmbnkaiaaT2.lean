/- Words for the top rows: arguments that are lists of whole numbers. -/
import Derived.Test.YtlpgfemmbnkaiaaT1
import Derived.Test.YtlpgfemmbnkaiaaB4
import Derived.ChangeSlices
set_option linter.unusedVariables false
set_option linter.unusedSimpArgs false
namespace Go.V
section
variable {H : Type} {enc : TypeId × Value → H} {P : Program} {w : World} {base : Nat} {spare : Nat → Bool} {held : Bool}
/-- Cells one after another, at an address. -/
theorem at_cells {a : Addr} {xs : List Value} (h : ∀ i x, xs[i]? = some x → w.cell? (a.add i) = some x) (hpos : xs.length ≠ 0) : ∃ b o, a = ⟨b, o, none⟩ ∧ At w b o xs := by
  obtain ⟨b, o, sp⟩ := a
  obtain ⟨x0, h0⟩ : ∃ x0, xs[0]? = some x0 := ⟨xs[0], by simp⟩
  have c0 := h 0 x0 h0
  simp only [Addr.add, if_true] at c0
  unfold World.cell? at c0
  split at c0
  · rename_i c e fr hb
    simp only at hb c0
    have hs : sp = none := by
      cases sp with
      | none => rfl
      | some s => simp at c0
    subst hs
    refine ⟨b, o, rfl, c, e, fr, hb, ?_, ?_⟩
    · have hl : xs.length - 1 < xs.length := by omega
      have c1 := h (xs.length - 1) xs[xs.length - 1] (by simp)
      have : ({ block := b, off := o, spot := none } : Addr).add (xs.length - 1) = ⟨b, o + (xs.length - 1), none⟩ := by
        unfold Addr.add; split
        · rename_i e0; rw [e0]; rfl
        · rfl
      rw [this] at c1
      unfold World.cell? at c1
      rw [hb] at c1
      simp only [Option.isSome_none, Bool.false_eq_true, if_false] at c1
      have := (Array.getElem?_eq_some_iff.1 c1).1
      omega
    · apply List.ext_getElem?
      intro i
      by_cases hi : i < xs.length
      · have hx : xs[i]? = some xs[i] := by simp [hi]
        have c1 := h i xs[i] hx
        have : ({ block := b, off := o, spot := none } : Addr).add i = ⟨b, o + i, none⟩ := by
          unfold Addr.add; split
          · rename_i e0; rw [e0]; rfl
          · rfl
        rw [this] at c1
        unfold World.cell? at c1
        rw [hb] at c1
        simp only [Option.isSome_none, Bool.false_eq_true, if_false] at c1
        rw [List.getElem?_take, if_pos hi, List.getElem?_drop, hx, ← c1]
        simp
      · rw [List.getElem?_take, if_neg hi, List.getElem?_eq_none_iff.2 (by omega)]
  · cases c0

theorem ints_of {t e : TypeId} {k : IntKind} (ht : P.underlying t = some (.slice e)) (he : P.underlying e = some (.int k)) (hc : P.cellsOf e = 1) {r : Reach} {b0 : Nat} {v : Value} {d : DataW H} {ps : List MemPlace}
    (hval : Value.okWide P w r b0 t v) (hd : DataW.Trod enc P w base spare held t v d ps) :
    ∃ xs : List Int, (∀ x ∈ xs, (Lit.int k x).wf = true) ∧ ∀ B, Rep w B noLoc (.row false 1 (.v (.agg ⟨xs.map (Value.int k)⟩)) xs.length) v := by
  obtain ⟨a, len, cap, rfl⟩ := WideShapes.okWide_slice ht hval
  obtain ⟨fuel, hf⟩ := hd
  have flat : ∀ zs : List Int, Flat (.agg ⟨zs.map (Value.int k)⟩) = true := by
    intro zs
    simp only [Flat, List.all_eq_true]
    intro x hx
    obtain ⟨z, _, rfl⟩ := List.mem_map.1 hx
    rfl
  rcases Go.ChangeShapes.open_ints ht he hc hf with ⟨h1, _⟩ | ⟨a', len', cap', zs, h1, _, h3, _, h5, _, h7, h8⟩
  · simp only [Value.cells, List.cons.injEq, Value.slice.injEq, and_true] at h1
    obtain ⟨rfl, rfl, rfl⟩ := h1
    refine ⟨[], by simp, fun B => ?_⟩
    simp only [Rep]
    exact ⟨none, 0, [], rfl, Nat.le_refl _, ⟨rfl, rfl⟩, rfl, .inl rfl⟩
  · simp only [Value.cells, List.cons.injEq, Value.slice.injEq, and_true] at h1
    obtain ⟨rfl, rfl, rfl⟩ := h1
    have hle : len ≤ zs.length := by rw [h5]; split <;> omega
    refine ⟨zs.take len, fun x hx => h8 x (List.mem_of_mem_take hx), fun B => ?_⟩
    have hl : (zs.take len).length = len := by simp; omega
    simp only [Rep]
    refine ⟨some a', cap, (zs.take len).map (Value.int k), by rw [hl], by rw [hl]; exact h3, ⟨rfl, flat _⟩, by simp, ?_⟩
    by_cases h0 : len = 0
    · left; rw [hl, h0]
    · right
      obtain ⟨b, o, rfl, hat⟩ := at_cells (w := w) (a := a') (xs := (zs.take len).map (Value.int k)) (fun i x hx => by
        rw [List.getElem?_map, List.getElem?_take] at hx
        split at hx
        · rename_i hi
          cases hz : zs[i]? with
          | none => rw [hz] at hx; simp at hx
          | some z =>
            rw [hz] at hx
            simp only [Option.map_some, Option.some.injEq] at hx
            subst hx
            have := h7 i (by omega)
            rw [List.getD_eq_getElem?_getD, hz] at this
            exact this
        · simp at hx) (by rw [List.length_map, hl]; exact h0)
      exact ⟨b, o, rfl, hat, fun _ _ => by simp [noLoc], by simp⟩
theorem ints_wf {xs : List Int} (h : ∀ x ∈ xs, (Lit.int .i64 x).wf = true) : ∀ i, i < xs.length → I64 (ix xs i) := by
  intro i hi
  have hm : ix xs i ∈ xs := by
    unfold ix
    rw [List.getD_eq_getElem?_getD]
    simp [hi]
  exact bounds_i64 (h _ hm)
theorem ints_rep {xs : List Int} {v : Value} (h : ∀ B, Rep w B noLoc (.row false 1 (.v (.agg ⟨xs.map (Value.int .i64)⟩)) xs.length) v) (B : Nat) : Rep w B noLoc (intsD false xs) v := by
  unfold intsD
  rw [intsC_def]
  exact h B
end
end Go.V
