import Derived.Test.YtejncabmppobfaaP1
import Derived.WalkKit
import Derived.ProofKit
import Derived.OpenShut
import Derived.ShutString
import Derived.ChangeOld
import Derived.SizedLaws
import Derived.ChangeSlices
import Derived.SliceStrings
import Derived.Test.YtejncabmppobfaaP2
import Derived.Test.YtejncabmppobfaaP3
set_option linter.unusedVariables false
set_option linter.unusedSimpArgs false
/- Words for the top rows: from a contract to what the row asks; how arguments made of whole numbers alone are opened. -/
set_option linter.unusedVariables false
set_option linter.unusedSimpArgs false
namespace Go.V

theorem Sat.walk {P : Program} {g : FuncId} {args : List D} {vs : List Value} {b : Bool} {w : World} (h : Sat P g args (.v (.bool b))) (hg : GlobOk w noLoc) (hr : RepL w w.heap.size noLoc args vs) :
    Calls P g ⟨vs⟩ w fun e w' => e = .returned (.bool b) ∧ RowKit.Below w.heap.size w w' := by
  refine Calls.mono (h.2 w vs hg hr) ?_
  rintro e w' ⟨y, loc, rfl, hb, hres⟩
  have : y = .bool b := by
    have h1 : Rep w' w.heap.size loc (.v (.bool b)) y := hres.rep
    simp only [Rep] at h1
    exact h1.1
  exact ⟨by rw [this], hb⟩

/-- The kinds of the cells of a type made of whole numbers alone. -/
def kindsFs (f : TypeId → Option (List IntKind)) : Nat → List (Nat × TypeId) → Option (List IntKind)
  | _, [] => some []
  | o, (fo, ft) :: r => bif fo == o then (match f ft with
    | some ks => (match kindsFs f (o + ks.length) r with | some l => some (ks ++ l) | none => none)
    | none => none) else none
def kindsOf (T : Types) : Nat → TypeId → Option (List IntKind)
  | 0, _ => none
  | n + 1, t => match T t with
    | some ⟨.int k, _, _, _⟩ => some [k]
    | some ⟨.arr m e, _, _, _⟩ => (match T e with
      | some i => kindsFs (kindsOf T n) 0 ((List.range m).map fun j => (j * i.size, e))
      | none => none)
    | some ⟨.struct fs, _, _, _⟩ => kindsFs (kindsOf T n) 0 fs
    | _ => none
def CellsOk (ks : List IntKind) (cs : List Value) : Prop := ∀ (i : Nat) (k : IntKind), ks[i]? = some k → ∃ z : Int, cs[i]? = some (Value.int k z) ∧ (Lit.int k z).wf = true

section
variable {H : Type} {enc : TypeId × Value → H} {P : Program} {T : Types} {w : World} {base : Nat} {spare : Nat → Bool} {held : Bool}
theorem cellsOf_eq {t : TypeId} {i : TI} (h : TIOk P t i) : P.cellsOf t = i.size := by
  obtain ⟨ti, h1, h2, _⟩ := h.info
  simp [Program.cellsOf, h1, h2]

theorem cells_fs {f : TypeId → Option (List IntKind)} {fuel : Nat} {cs : List Value}
    (hf : ∀ t ks cs x, f t = some ks → DataW.trod enc P w base spare held fuel t cs = some x → CellsOk ks cs) :
    ∀ (fs : List (Nat × TypeId)) (o : Nat) (ks : List IntKind), kindsFs f o fs = some ks → (∀ q ∈ fs, ∃ x, DataW.trod enc P w base spare held fuel q.2 ((cs.drop q.1).take (P.cellsOf q.2)) = some x) → CellsOk ks (cs.drop o)
  | [], o, ks, h, _ => by
    simp only [kindsFs, Option.some.injEq] at h
    subst h
    intro i k hi; simp at hi
  | (fo, ft) :: r, o, ks, h, hx => by
    simp only [kindsFs] at h
    cases he : (fo == o) <;> simp only [he, cond_true, cond_false] at h
    · cases h
    simp only [beq_iff_eq] at he
    subst he
    split at h
    · rename_i ks1 hk1
      split at h
      · rename_i l hl
        simp only [Option.some.injEq] at h
        subst h
        obtain ⟨x, hx1⟩ := hx (fo, ft) (by simp)
        have h1 := hf _ _ _ _ hk1 hx1
        have h2 := cells_fs hf r _ _ hl fun q hq => hx q (by simp [hq])
        intro i k hi
        rw [List.getElem?_append] at hi
        split at hi
        · obtain ⟨z, g1, g2⟩ := h1 i k hi
          rw [List.getElem?_take] at g1
          split at g1
          · exact ⟨z, g1, g2⟩
          · cases g1
        · rename_i hge
          obtain ⟨z, g1, g2⟩ := h2 _ k hi
          refine ⟨z, ?_, g2⟩
          rw [← g1]
          simp only [List.getElem?_drop]
          congr 1
          omega
      · cases h
    · cases h

theorem kinds_ok (hT : TOk P T) : ∀ (n : Nat) (t : TypeId) (ks : List IntKind), kindsOf T n t = some ks → ∀ (fuel : Nat) (cs : List Value) (x : DataW H × List MemPlace), DataW.trod enc P w base spare held fuel t cs = some x → CellsOk ks cs
  | 0, t, ks, h, _, _, _, _ => by simp [kindsOf] at h
  | n + 1, t, ks, h, fuel, cs, x, hx => by
    have ih := kinds_ok hT n
    simp only [kindsOf] at h
    split at h
    · rename_i k a b c hi
      simp only [Option.some.injEq] at h
      subst h
      have hu := (hT t _ hi).und
      simp only [UOk] at hu
      obtain ⟨z, rfl, _, hw⟩ := DataW.trod_int hu hx
      intro i k' hk'
      cases i with
      | zero => simp at hk'; subst hk'; exact ⟨z, rfl, hw⟩
      | succ i => simp at hk'
    · rename_i m e a b c hi
      have hu := (hT t _ hi).und
      simp only [UOk] at hu
      split at h
      · rename_i ie he
        obtain ⟨xs, fuel', _, _, hl, hxs, hel⟩ := DataW.trod_array hu hx
        have := cells_fs (fuel := fuel') (fun t ks cs x hk hx => ih t ks hk fuel' cs x hx) (cs := cs) _ 0 ks h (fun q hq => by
          rw [List.mem_map] at hq
          obtain ⟨j, hj, rfl⟩ := hq
          rw [List.mem_range] at hj
          have hj' : j < xs.length := by omega
          refine ⟨xs[j], ?_⟩
          have := hel j hj
          rw [← cellsOf_eq (hT e _ he), this]
          simp [hj'])
        simpa using this
      · cases h
    · rename_i fs a b c hi
      have hu := (hT t _ hi).und
      simp only [UOk] at hu
      obtain ⟨fields, hu, hfs⟩ := hu
      obtain ⟨xs, fuel', _, _, hl, hxs, hel⟩ := DataW.trod_struct hu hx
      have := cells_fs (fuel := fuel') (fun t ks cs x hk hx => ih t ks hk fuel' cs x hx) (cs := cs) _ 0 ks h (fun q hq => by
        rw [← hfs, List.mem_map] at hq
        obtain ⟨F, hF, rfl⟩ := hq
        obtain ⟨j, hj, hjF⟩ := List.mem_iff_getElem.1 hF
        have hj' : j < xs.length := by rw [hxs]; simpa using hj
        refine ⟨xs[j], ?_⟩
        have hsome : fields[j]? = some F := by
          have hj2 : j < fields.size := by simpa using hj
          rw [Array.getElem?_eq_getElem hj2]
          simpa using hjF
        rw [hel j F hsome]
        simp [hj'])
      simpa using this
    · cases h

theorem open_cells (hT : TOk P T) {n : Nat} {t : TypeId} {i : TI} {ks : List IntKind} (hi : T t = some i) (hagg : i.isAgg = true) (hk : kindsOf T n t = some ks) (hl : i.size = ks.length)
    {r : Reach} {b0 : Nat} {v : Value} {d : DataW H} {ps : List MemPlace} (hval : Value.okWide P w r b0 t v) (hd : DataW.Trod enc P w base spare held t v d ps) :
    ∃ cs, v = .agg ⟨cs⟩ ∧ cs.length = ks.length ∧ CellsOk ks cs := by
  have hok := hT t i hi
  have hv : ∃ cs : Array Value, v = .agg cs ∧ cs.size = P.cellsOf t := by
    unfold Value.okWide at hval
    have hu := hok.und
    obtain ⟨u, sz, bs, z⟩ := i
    cases u <;> simp only [TI.isAgg] at hagg <;> first | (cases hagg; done) | skip
    · simp only [UOk] at hu
      rw [hu] at hval
      obtain ⟨cs, h1, h2, _⟩ := hval
      exact ⟨cs, h1, h2⟩
    · simp only [UOk] at hu
      obtain ⟨fields, hu, _⟩ := hu
      rw [hu] at hval
      obtain ⟨cs, h1, h2, _⟩ := hval
      exact ⟨cs, h1, h2⟩
  obtain ⟨cs, rfl, hsz⟩ := hv
  obtain ⟨fuel, hf⟩ := hd
  refine ⟨cs.toList, rfl, ?_, kinds_ok hT n t ks hk fuel _ _ hf⟩
  rw [Array.length_toList, hsz, cellsOf_eq hok, hl]
end

def numAt (cs : List Value) (i : Nat) : Int := match cs[i]? with | some (.int _ z) => z | _ => 0
theorem cell_at {ks : List IntKind} {cs : List Value} (h : CellsOk ks cs) {i : Nat} {k : IntKind} (hi : ks[i]? = some k) : cs[i]? = some (.int k (numAt cs i)) ∧ (Lit.int k (numAt cs i)).wf = true := by
  obtain ⟨z, h1, h2⟩ := h i k hi
  have : numAt cs i = z := by simp [numAt, h1]
  rw [this]
  exact ⟨h1, h2⟩

/-- Rows of bytes. -/
theorem bytes_of {cs : List Value} {n : Nat} (hl : cs.length = n) (h : CellsOk (List.replicate n .u8) cs) : ∃ f : Nat → Int, (∀ i, 0 ≤ f i ∧ f i ≤ 255) ∧ cs = tab n fun i => .int .u8 (f i) := by
  refine ⟨fun i => if i < n then numAt cs i else 0, fun i => ?_, ?_⟩
  · dsimp only
    split
    · rename_i hi
      have := (cell_at h (i := i) (k := .u8) (by simp [List.getElem?_replicate, hi])).2
      exact bounds_u8 this
    · omega
  · apply List.ext_getElem?
    intro i
    by_cases hi : i < n
    · rw [tab_get hi, (cell_at h (i := i) (k := .u8) (by simp [List.getElem?_replicate, hi])).1]
      simp [hi]
    · rw [tab_none (by omega), List.getElem?_eq_none_iff]
      omega

theorem grid_of {cs : List Value} (hl : cs.length = 64) (h : CellsOk (List.replicate 64 .u8) cs) : ∃ t : Nat → Nat → Int, (∀ c k, 0 ≤ t c k ∧ t c k ≤ 255) ∧ cs = grid t := by
  obtain ⟨f, hf, rfl⟩ := bytes_of hl h
  refine ⟨fun c k => f (c * 8 + k), fun c k => hf _, ?_⟩
  unfold grid
  apply tab_congr
  intro i hi
  dsimp only
  rw [show i / 8 * 8 + i % 8 = i by omega]

theorem row_of {cs : List Value} (hl : cs.length = 8) (h : CellsOk (List.replicate 8 .u8) cs) : ∃ f : Nat → Int, (∀ i, 0 ≤ f i ∧ f i ≤ 255) ∧ cs = row8 f := bytes_of hl h

theorem roof_of {cs : List Value} (hl : cs.length = 67) (h : CellsOk (.i8 :: .i8 :: .u8 :: List.replicate 64 .u8) cs) : ∃ r : Roof, r.In ∧ cs = roofC r := by
  match cs, hl with
  | a :: b :: c :: rest, hl =>
    have h0 := h 0 .i8 rfl
    have h1 := h 1 .i8 rfl
    have h2 := h 2 .u8 rfl
    obtain ⟨z0, e0, w0⟩ := h0
    obtain ⟨z1, e1, w1⟩ := h1
    obtain ⟨z2, e2, w2⟩ := h2
    simp only [List.getElem?_cons_zero, List.getElem?_cons_succ, Option.some.injEq] at e0 e1 e2
    subst e0 e1 e2
    obtain ⟨t, ht, rfl⟩ := grid_of (cs := rest) (by simpa using hl) (fun i k hi => by
      obtain ⟨z, g1, g2⟩ := h (i + 3) k (by simpa using hi)
      exact ⟨z, by simpa using g1, g2⟩)
    exact ⟨⟨z0, z1, z2, t⟩, ⟨bounds_i8 w0, bounds_i8 w1, bounds_u8 w2, ht⟩, rfl⟩

theorem flat_tab {n : Nat} {f : Nat → Value} (h : ∀ i, i < n → (f i).oneCell' = true) : Flat (.agg ⟨tab n f⟩) = true := by
  simp only [Flat, List.all_eq_true]
  intro x hx
  obtain ⟨i, hi, rfl⟩ := List.mem_iff_getElem.1 hx
  have hi' : i < n := by simpa using hi
  have := tab_get (f := f) hi'
  rw [List.getElem?_eq_getElem hi] at this
  simp only [Option.some.injEq] at this
  rw [this]
  exact h i hi'
theorem flat_row (f : Nat → Int) : Flat (.agg ⟨row8 f⟩) = true := flat_tab fun i _ => rfl
theorem flat_grid (t : Nat → Nat → Int) : Flat (.agg ⟨grid t⟩) = true := flat_tab fun i _ => rfl
theorem flat_roof (r : Roof) : Flat (.agg ⟨roofC r⟩) = true := by
  have := flat_grid r.t
  simp only [Flat, List.all_eq_true] at this ⊢
  intro x hx
  unfold roofC at hx
  simp only [List.mem_cons] at hx
  rcases hx with rfl | rfl | rfl | hx
  · rfl
  · rfl
  · rfl
  · exact this x hx
theorem rep_v {w : World} {b : Nat} {loc : Loc} {x : Value} (h : Flat x = true) : Rep w b loc (.v x) x := by simp only [Rep]; exact ⟨trivial, h⟩
end Go.V
/- Words for the top rows: arguments that are lists of whole numbers. -/
set_option linter.unusedVariables false
set_option linter.unusedSimpArgs false
namespace Go.V
section
variable {H : Type} {enc : TypeId × Value → H} {P : Program} {w : World} {base : Nat} {spare : Nat → Bool} {held : Bool}
/-- Cells one after another, at an address. -/
theorem at_cells {a : Addr} {xs : List Value} (h : ∀ i x, xs[i]? = some x → w.cell? (a.add i) = some x) (hpos : xs.length ≠ 0) : ∃ b o, a = ⟨b, o, none⟩ ∧ At w b o xs := by
  obtain ⟨b, o, sp⟩ := a
  obtain ⟨x0, h0⟩ : ∃ x0, xs[0]? = some x0 := ⟨xs[0], by simp⟩
  have c0 := h 0 x0 h0
  simp only [Addr.add, if_true] at c0
  unfold World.cell? at c0
  split at c0
  · rename_i c e fr hb
    simp only at hb c0
    have hs : sp = none := by
      cases sp with
      | none => rfl
      | some s => simp at c0
    subst hs
    refine ⟨b, o, rfl, c, e, fr, hb, ?_, ?_⟩
    · have hl : xs.length - 1 < xs.length := by omega
      have c1 := h (xs.length - 1) xs[xs.length - 1] (by simp)
      have : ({ block := b, off := o, spot := none } : Addr).add (xs.length - 1) = ⟨b, o + (xs.length - 1), none⟩ := by
        unfold Addr.add; split
        · rename_i e0; rw [e0]; rfl
        · rfl
      rw [this] at c1
      unfold World.cell? at c1
      rw [hb] at c1
      simp only [Option.isSome_none, Bool.false_eq_true, if_false] at c1
      have := (Array.getElem?_eq_some_iff.1 c1).1
      omega
    · apply List.ext_getElem?
      intro i
      by_cases hi : i < xs.length
      · have hx : xs[i]? = some xs[i] := by simp [hi]
        have c1 := h i xs[i] hx
        have : ({ block := b, off := o, spot := none } : Addr).add i = ⟨b, o + i, none⟩ := by
          unfold Addr.add; split
          · rename_i e0; rw [e0]; rfl
          · rfl
        rw [this] at c1
        unfold World.cell? at c1
        rw [hb] at c1
        simp only [Option.isSome_none, Bool.false_eq_true, if_false] at c1
        rw [List.getElem?_take, if_pos hi, List.getElem?_drop, hx, ← c1]
        simp
      · rw [List.getElem?_take, if_neg hi, List.getElem?_eq_none_iff.2 (by omega)]
  · cases c0

theorem ints_of {t e : TypeId} {k : IntKind} (ht : P.underlying t = some (.slice e)) (he : P.underlying e = some (.int k)) (hc : P.cellsOf e = 1) {r : Reach} {b0 : Nat} {v : Value} {d : DataW H} {ps : List MemPlace}
    (hval : Value.okWide P w r b0 t v) (hd : DataW.Trod enc P w base spare held t v d ps) :
    ∃ xs : List Int, (∀ x ∈ xs, (Lit.int k x).wf = true) ∧ ∀ B, Rep w B noLoc (.row false 1 (.v (.agg ⟨xs.map (Value.int k)⟩)) xs.length) v := by
  obtain ⟨a, len, cap, rfl⟩ := WideShapes.okWide_slice ht hval
  obtain ⟨fuel, hf⟩ := hd
  have flat : ∀ zs : List Int, Flat (.agg ⟨zs.map (Value.int k)⟩) = true := by
    intro zs
    simp only [Flat, List.all_eq_true]
    intro x hx
    obtain ⟨z, _, rfl⟩ := List.mem_map.1 hx
    rfl
  rcases Go.ChangeShapes.open_ints ht he hc hf with ⟨h1, _⟩ | ⟨a', len', cap', zs, h1, _, h3, _, h5, _, h7, h8⟩
  · simp only [Value.cells, List.cons.injEq, Value.slice.injEq, and_true] at h1
    obtain ⟨rfl, rfl, rfl⟩ := h1
    refine ⟨[], by simp, fun B => ?_⟩
    simp only [Rep]
    exact ⟨none, 0, [], rfl, Nat.le_refl _, ⟨rfl, rfl⟩, rfl, .inl rfl, by simp⟩
  · simp only [Value.cells, List.cons.injEq, Value.slice.injEq, and_true] at h1
    obtain ⟨rfl, rfl, rfl⟩ := h1
    have hle : len ≤ zs.length := by rw [h5]; split <;> omega
    refine ⟨zs.take len, fun x hx => h8 x (List.mem_of_mem_take hx), fun B => ?_⟩
    have hl : (zs.take len).length = len := by simp; omega
    simp only [Rep]
    refine ⟨some a', cap, (zs.take len).map (Value.int k), by rw [hl], by rw [hl]; exact h3, ⟨rfl, flat _⟩, by simp, ?_, by simp⟩
    by_cases h0 : len = 0
    · left; rw [hl, h0]
    · right
      obtain ⟨b, o, rfl, hat⟩ := at_cells (w := w) (a := a') (xs := (zs.take len).map (Value.int k)) (fun i x hx => by
        rw [List.getElem?_map, List.getElem?_take] at hx
        split at hx
        · rename_i hi
          cases hz : zs[i]? with
          | none => rw [hz] at hx; simp at hx
          | some z =>
            rw [hz] at hx
            simp only [Option.map_some, Option.some.injEq] at hx
            subst hx
            have := h7 i (by omega)
            rw [List.getD_eq_getElem?_getD, hz] at this
            exact this
        · simp at hx) (by rw [List.length_map, hl]; exact h0)
      exact ⟨b, o, rfl, hat, fun _ _ => by simp [noLoc], by simp⟩
theorem ints_wf {xs : List Int} (h : ∀ x ∈ xs, (Lit.int .i64 x).wf = true) : ∀ i, i < xs.length → I64 (ix xs i) := by
  intro i hi
  have hm : ix xs i ∈ xs := by
    unfold ix
    rw [List.getD_eq_getElem?_getD]
    simp [hi]
  exact bounds_i64 (h _ hm)
theorem ints_rep {xs : List Int} {v : Value} (h : ∀ B, Rep w B noLoc (.row false 1 (.v (.agg ⟨xs.map (Value.int .i64)⟩)) xs.length) v) (B : Nat) : Rep w B noLoc (intsD false xs) v := by
  unfold intsD
  rw [intsC_def]
  exact h B
end
end Go.V
/- Words for the top rows: arguments that are lists of strings. -/
set_option linter.unusedVariables false
set_option linter.unusedSimpArgs false
namespace Go.V
section
variable {H : Type} {enc : TypeId × Value → H} {P : Program} {w : World} {base : Nat} {spare : Nat → Bool} {held : Bool}
theorem strs_of {t e : TypeId} (ht : P.underlying t = some (.slice e)) (he : P.underlying e = some .string) (hc : P.cellsOf e = 1) {r : Reach} {b0 : Nat} {v : Value} {d : DataW H} {ps : List MemPlace}
    (hval : Value.okWide P w r b0 t v) (hd : DataW.Trod enc P w base spare held t v d ps) :
    ∃ xs : List ByteArray, StrsIn xs ∧ ∀ B, Rep w B noLoc (.row false 1 (.v (.agg ⟨xs.map Value.string⟩)) xs.length) v := by
  obtain ⟨a, len, cap, rfl⟩ := WideShapes.okWide_slice ht hval
  obtain ⟨fuel, hf⟩ := hd
  have flat : ∀ zs : List ByteArray, Flat (.agg ⟨zs.map Value.string⟩) = true := by
    intro zs
    simp only [Flat, List.all_eq_true]
    intro x hx
    obtain ⟨z, _, rfl⟩ := List.mem_map.1 hx
    rfl
  rcases Go.ChangeShapes.open_strings ht he hc hf with ⟨h1, _⟩ | ⟨a', len', cap', zs, h1, _, h3, hm, h5, _, h7, h8⟩
  · simp only [Value.cells, List.cons.injEq, Value.slice.injEq, and_true] at h1
    obtain ⟨rfl, rfl, rfl⟩ := h1
    refine ⟨[], ⟨by simp, by simp⟩, fun B => ?_⟩
    simp only [Rep]
    exact ⟨none, 0, [], rfl, Nat.le_refl _, ⟨rfl, rfl⟩, rfl, .inl rfl, by simp⟩
  · simp only [Value.cells, List.cons.injEq, Value.slice.injEq, and_true] at h1
    obtain ⟨rfl, rfl, rfl⟩ := h1
    have hle : len ≤ zs.length := by rw [h5]; split <;> omega
    have hl : (zs.take len).length = len := by simp; omega
    have hmax : maxLen ≤ 9223372036854775807 := by decide
    refine ⟨zs.take len, ⟨by rw [hl]; omega, fun i hi => ?_⟩, fun B => ?_⟩
    · have := h8 _ (List.mem_of_mem_take (sx_mem hi))
      omega
    simp only [Rep]
    refine ⟨some a', cap, (zs.take len).map Value.string, by rw [hl], by rw [hl]; exact h3, ⟨rfl, flat _⟩, by simp, ?_, by simp⟩
    by_cases h0 : len = 0
    · left; rw [hl, h0]
    · right
      obtain ⟨b, o, rfl, hat⟩ := at_cells (w := w) (a := a') (xs := (zs.take len).map Value.string) (fun i x hx => by
        rw [List.getElem?_map, List.getElem?_take] at hx
        split at hx
        · rename_i hi
          cases hz : zs[i]? with
          | none => rw [hz] at hx; simp at hx
          | some z =>
            rw [hz] at hx
            simp only [Option.map_some, Option.some.injEq] at hx
            subst hx
            have := h7 i (by omega)
            rw [List.getD_eq_getElem?_getD, hz] at this
            exact this
        · simp at hx) (by rw [List.length_map, hl]; exact h0)
      exact ⟨b, o, rfl, hat, fun _ _ => by simp [noLoc], by simp⟩
theorem strs_rep {xs : List ByteArray} {v : Value} (h : ∀ B, Rep w B noLoc (.row false 1 (.v (.agg ⟨xs.map Value.string⟩)) xs.length) v) (B : Nat) : Rep w B noLoc (strsD false xs) v := by
  unfold strsD
  rw [strsC_def]
  exact h B
end
end Go.V
/- Words for the top rows: rows of structs of whole numbers; gutters and water. -/
set_option linter.unusedVariables false
set_option linter.unusedSimpArgs false
namespace Go.V
theorem add_add (a : Addr) (i j : Nat) : (a.add i).add j = a.add (i + j) := by
  unfold Addr.add
  by_cases hi : i = 0
  · subst hi; simp
  · by_cases hj : j = 0
    · subst hj; simp [hi]
    · have : ¬ i + j = 0 := by omega
      simp [hi, hj, Nat.add_assoc]
theorem flatMap_congr' {α β : Type} {l : List α} {f g : α → List β} (h : ∀ x ∈ l, f x = g x) : l.flatMap f = l.flatMap g := by
  induction l with
  | nil => rfl
  | cons a l ih => rw [List.flatMap_cons, List.flatMap_cons, h a (by simp), ih fun x hx => h x (by simp [hx])]
theorem flatMap_len {f : Nat → List Value} {s : Nat} : ∀ {len : Nat}, (∀ i, i < len → (f i).length = s) → ((List.range len).flatMap f).length = len * s
  | 0, _ => by simp
  | len + 1, h => by
    rw [List.range_succ, List.flatMap_append, List.length_append, flatMap_len fun i hi => h i (by omega)]
    simp [h len (by omega), Nat.succ_mul]
theorem flatMap_get {f : Nat → List Value} {s : Nat} (hs : 0 < s) : ∀ {len : Nat}, (∀ i, i < len → (f i).length = s) → ∀ i, i < len * s → ((List.range len).flatMap f)[i]? = (f (i / s))[i % s]?
  | 0, _, i, hi => by omega
  | len + 1, h, i, hi => by
    have hl := flatMap_len (len := len) fun i hi => h i (by omega)
    rw [List.range_succ, List.flatMap_append, List.getElem?_append, hl]
    split
    · rename_i hlt
      exact flatMap_get hs (fun i hi => h i (by omega)) i hlt
    · rename_i hge
      rw [Nat.succ_mul] at hi
      have e1 : i / s = len := by
        rw [Nat.div_eq_iff hs]; constructor
        · omega
        · omega
      have e2 : i % s = i - len * s := by
        have := Nat.div_add_mod i s
        rw [e1, Nat.mul_comm] at this
        omega
      rw [e1, e2]
      simp
section
variable {H : Type} {enc : TypeId × Value → H} {P : Program} {T : Types} {w : World} {base : Nat} {spare : Nat → Bool} {held : Bool}
theorem rows_of (hT : TOk P T) {t e : TypeId} {n fuel : Nat} {ks : List IntKind} {cs : List Value} {x : DataW H × List MemPlace} (ht : P.underlying t = some (.slice e)) (hk : kindsOf T n e = some ks) (hc : P.cellsOf e = ks.length) (hpos : 0 < ks.length)
    (h : DataW.trod enc P w base spare held fuel t cs = some x) :
    ∃ (y : Value) (len : Nat) (f : Nat → List Value), cs = [y] ∧ len ≤ maxLen ∧ (∀ i, i < len → (f i).length = ks.length ∧ CellsOk ks (f i)) ∧ ∀ B, Rep w B noLoc (.row false ks.length (.v (.agg ⟨(List.range len).flatMap f⟩)) len) y := by
  rcases DataW.trod_slice ht h with ⟨rfl, _⟩ | ⟨a, len, cap, elems, rest, n', _, rfl, rfl, hb, hl, hm, hlen, hel, hsp, hns⟩
  · refine ⟨_, 0, fun _ => [], rfl, Nat.zero_le _, fun i hi => by omega, fun B => ?_⟩
    simp only [Rep]
    exact ⟨none, 0, [], rfl, Nat.le_refl _, ⟨rfl, rfl⟩, by simp, .inl (by simp), by simp⟩
  have each : ∀ i, i < len → ∃ c, w.cells? base (a.add (i * ks.length)) ks.length = some c ∧ CellsOk ks c := by
    intro i hi
    have h1 := hel i hi
    rw [List.getElem?_eq_getElem (by omega), Option.bind_eq_some_iff] at h1
    obtain ⟨c, g1, g2⟩ := h1
    rw [hc] at g1
    exact ⟨c, g1, kinds_ok hT n e ks hk _ _ _ g2⟩
  let f : Nat → List Value := fun i => (w.cells? base (a.add (i * ks.length)) ks.length).getD []
  have hf : ∀ i, i < len → (f i).length = ks.length ∧ CellsOk ks (f i) ∧ ∀ j, j < ks.length → w.cell? (a.add (i * ks.length + j)) = (f i)[j]? := by
    intro i hi
    obtain ⟨c, g1, g2⟩ := each i hi
    have e : f i = c := by show (w.cells? base (a.add (i * ks.length)) ks.length).getD [] = c; rw [g1]; rfl
    obtain ⟨_, g3, g4⟩ := World.cells?_some g1
    rw [e]
    exact ⟨g3, g2, fun j hj => by rw [← add_add]; exact g4 j hj⟩
  have hfl : ∀ i, i < len → (f i).length = ks.length := fun i hi => (hf i hi).1
  refine ⟨_, len, f, rfl, by omega, fun i hi => ⟨(hf i hi).1, (hf i hi).2.1⟩, fun B => ?_⟩
  have hL := flatMap_len hfl
  have flat : Flat (.agg ⟨(List.range len).flatMap f⟩) = true := by
    simp only [Flat, List.all_eq_true]
    intro x hx
    obtain ⟨i, hi⟩ := List.getElem?_of_mem hx
    have hil := (List.getElem?_eq_some_iff.1 hi).1
    rw [hL] at hil
    rw [flatMap_get hpos hfl i hil] at hi
    have hq : i / ks.length < len := Nat.div_lt_of_lt_mul (by rw [Nat.mul_comm]; exact hil)
    have hr := Nat.mod_lt i hpos
    obtain ⟨z, g1, _⟩ := (hf _ hq).2.1 (i % ks.length) (ks[i % ks.length]) (by simp [hr])
    rw [g1] at hi
    simp only [Option.some.injEq] at hi
    subst hi
    rfl
  simp only [Rep]
  refine ⟨some a, cap, (List.range len).flatMap f, rfl, hl, ⟨rfl, flat⟩, hL, ?_, by simp⟩
  by_cases h0 : len * ks.length = 0
  · left; exact h0
  · right
    obtain ⟨b, o, rfl, hat⟩ := at_cells (w := w) (a := a) (xs := (List.range len).flatMap f) (fun i x hx => by
      have hil := (List.getElem?_eq_some_iff.1 hx).1
      rw [hL] at hil
      rw [flatMap_get hpos hfl i hil] at hx
      have hq : i / ks.length < len := Nat.div_lt_of_lt_mul (by rw [Nat.mul_comm]; exact hil)
      have hr := Nat.mod_lt i hpos
      have := (hf _ hq).2.2 _ hr
      rw [Nat.mul_comm, Nat.div_add_mod] at this
      rw [this, hx]) (by rw [hL]; exact h0)
    exact ⟨b, o, rfl, hat, fun _ _ => by simp [noLoc], by simp⟩
theorem two_of {cs : List Value} {k k' : IntKind} (hl : cs.length = 2) (h : CellsOk [k, k'] cs) : cs = [.int k (numAt cs 0), .int k' (numAt cs 1)] ∧ (Lit.int k (numAt cs 0)).wf = true ∧ (Lit.int k' (numAt cs 1)).wf = true := by
  have h0 := cell_at h (i := 0) rfl
  have h1 := cell_at h (i := 1) rfl
  refine ⟨?_, h0.2, h1.2⟩
  generalize numAt cs 0 = x at *
  generalize numAt cs 1 = y at *
  match cs, hl with
  | [a, b], _ =>
    have e0 := h0.1
    have e1 := h1.1
    simp only [List.getElem?_cons_zero, List.getElem?_cons_succ, Option.some.injEq] at e0 e1
    rw [e0, e1]
theorem bounds_i16' {z : Int} (h : (Lit.int .i16 z).wf = true) : -32768 ≤ z ∧ z ≤ 32767 := by
  simp [Lit.wf, IntKind.min, IntKind.max, IntKind.signed, IntKind.bits] at h
  omega
theorem bounds_u32' {z : Int} (h : (Lit.int .u32 z).wf = true) : 0 ≤ z ∧ z ≤ 4294967295 := by
  simp [Lit.wf, IntKind.min, IntKind.max, IntKind.signed, IntKind.bits] at h
  omega
theorem bounds_i32' {z : Int} (h : (Lit.int .i32 z).wf = true) : -2147483648 ≤ z ∧ z ≤ 2147483647 := by
  simp [Lit.wf, IntKind.min, IntKind.max, IntKind.signed, IntKind.bits] at h
  omega
theorem wat_of {cs : List Value} (hl : cs.length = 17) (h : CellsOk (List.replicate 17 .i32) cs) : ∃ f : Nat → Int, WatIn f ∧ cs = watC f := by
  refine ⟨fun i => if i < 17 then numAt cs i else 0, ⟨fun i => ?_⟩, ?_⟩
  · show -2147483648 ≤ (if i < 17 then numAt cs i else 0) ∧ (if i < 17 then numAt cs i else 0) ≤ 2147483647
    split
    · rename_i hi
      exact bounds_i32' (cell_at h (i := i) (k := .i32) (by rw [List.getElem?_replicate, if_pos hi])).2
    · omega
  · unfold watC
    apply List.ext_getElem?
    intro i
    by_cases hi : i < 17
    · rw [tab_get hi, (cell_at h (i := i) (k := .i32) (by rw [List.getElem?_replicate, if_pos hi])).1]
      simp [hi]
    · rw [tab_none (by omega), List.getElem?_eq_none_iff]
      omega
theorem flat_wat (f : Nat → Int) : Flat (.agg ⟨watC f⟩) = true := flat_tab fun i _ => rfl
def pipeOf (c : List Value) : Int × Int := (numAt c 0, numAt c 1)
theorem sub_one {cs : List Value} {o c : Nat} {y : Value} (h : (cs.drop o).take c = [y]) : cs[o]? = some y := by
  have : ((cs.drop o).take c)[0]? = some y := by rw [h]; rfl
  rw [List.getElem?_take] at this
  split at this
  · simpa using this
  · cases this
theorem sub_at {ks : List IntKind} {cs : List Value} {o c : Nat} (h : CellsOk ks ((cs.drop o).take c)) {j : Nat} {k : IntKind} (hj : ks[j]? = some k) : cs[o + j]? = some (.int k (numAt cs (o + j))) ∧ (Lit.int k (numAt cs (o + j))).wf = true := by
  obtain ⟨z, h1, h2⟩ := h j k hj
  rw [List.getElem?_take] at h1
  split at h1
  · rw [List.getElem?_drop] at h1
    have : numAt cs (o + j) = z := by simp [numAt, h1]
    rw [this]
    exact ⟨h1, h2⟩
  · cases h1
theorem gut_of (hT : TOk P T) {t t0 t1 t2 t3 t4 te : TypeId} {bs : Nat} {z : Value} (hi : T t = some ⟨.struct [(0, t0), (1, t1), (2, t2), (19, t3), (20, t4)], 21, bs, z⟩)
    (k0 : kindsOf T 6 t0 = some [.i8]) (k1 : kindsOf T 6 t1 = some [.i16]) (k2 : kindsOf T 6 t2 = some (List.replicate 17 .i8)) (k3 : kindsOf T 6 t3 = some [.u32]) (ht : P.underlying t4 = some (.slice te)) (k4 : kindsOf T 6 te = some [.i8, .i16]) (hc : P.cellsOf te = 2)
    {r : Reach} {b0 : Nat} {v : Value} {d : DataW H} {ps : List MemPlace} (hval : Value.okWide P w r b0 t v) (hd : DataW.Trod enc P w base spare held t v d ps) :
    ∃ g : Gut, g.In ∧ ∀ B, Rep w B noLoc (gutD false g) v := by
  have hok := hT t _ hi
  have hu := hok.und
  simp only [UOk] at hu
  obtain ⟨fields, hu, hfs⟩ := hu
  have hv : ∃ cs : Array Value, v = .agg cs ∧ cs.size = P.cellsOf t := by
    unfold Value.okWide at hval
    rw [hu] at hval
    obtain ⟨cs, h1, h2, _⟩ := hval
    exact ⟨cs, h1, h2⟩
  obtain ⟨⟨cs⟩, rfl, hsz⟩ := hv
  rw [cellsOf_eq hok] at hsz
  have hl : cs.length = 21 := hsz
  obtain ⟨fuel, hf⟩ := hd
  obtain ⟨xs, fuel', _, _, _, hxs, hel⟩ := DataW.trod_struct hu hf
  have sub : ∀ q ∈ [(0, t0), (1, t1), (2, t2), (19, t3), (20, t4)], ∃ x, DataW.trod enc P w base spare held fuel' q.2 ((cs.drop q.1).take (P.cellsOf q.2)) = some x := by
    intro q hq
    rw [← hfs, List.mem_map] at hq
    obtain ⟨F, hF, rfl⟩ := hq
    obtain ⟨j, hj, hjF⟩ := List.mem_iff_getElem.1 hF
    have hj' : j < xs.length := by rw [hxs]; simpa using hj
    refine ⟨xs[j], ?_⟩
    have hsome : fields[j]? = some F := by
      have hj2 : j < fields.size := by simpa using hj
      rw [Array.getElem?_eq_getElem hj2]
      simpa using hjF
    have := hel j F hsome
    rw [show (Value.agg { toList := cs }).cells.toList = cs from rfl] at this
    rw [this]
    simp [hj']
  obtain ⟨x0, s0⟩ := sub (0, t0) (by simp)
  obtain ⟨x1, s1⟩ := sub (1, t1) (by simp)
  obtain ⟨x2, s2⟩ := sub (2, t2) (by simp)
  obtain ⟨x3, s3⟩ := sub (19, t3) (by simp)
  obtain ⟨x4, s4⟩ := sub (20, t4) (by simp)
  have c0 := sub_at (kinds_ok hT 6 _ _ k0 _ _ _ s0) (j := 0) rfl
  have c1 := sub_at (kinds_ok hT 6 _ _ k1 _ _ _ s1) (j := 0) rfl
  have c2 : ∀ j, j < 17 → _ := fun j hj => sub_at (kinds_ok hT 6 _ _ k2 _ _ _ s2) (j := j) (k := .i8) (by rw [List.getElem?_replicate, if_pos hj])
  have c3 := sub_at (kinds_ok hT 6 _ _ k3 _ _ _ s3) (j := 0) rfl
  obtain ⟨y, len, f, e4, hlen, hf4, hrep⟩ := rows_of hT ht k4 hc (by decide) s4
  have c4 := sub_one e4
  let g : Gut := ⟨numAt cs (0 + 0), numAt cs (1 + 0), fun j => if j < 17 then numAt cs (2 + j) else 0, numAt cs (19 + 0), (List.range len).map fun i => pipeOf (f i)⟩
  have hps : ∀ i, i < len → px g.ps i = pipeOf (f i) := fun i hi => by
    show ((List.range len).map fun i => pipeOf (f i)).getD i (0, 0) = _
    rw [List.getD_eq_getElem?_getD]
    simp [hi]
  have hgl : g.ps.length = len := by show ((List.range len).map fun i => pipeOf (f i)).length = len; simp
  have hmax : maxLen ≤ 9223372036854775807 := by decide
  refine ⟨g, ⟨bounds_i8 c0.2, bounds_i16' c1.2, fun j => ?_, bounds_u32' c3.2, fun i hi => ?_, by omega⟩, fun B => ?_⟩
  · show -128 ≤ (if j < 17 then numAt cs (2 + j) else 0) ∧ (if j < 17 then numAt cs (2 + j) else 0) ≤ 127
    split
    · rename_i hj; exact bounds_i8 (c2 j hj).2
    · omega
  · rw [hgl] at hi
    rw [hps i hi]
    have := two_of (hf4 i hi).1 (hf4 i hi).2
    exact ⟨bounds_i8 this.2.1, bounds_i16' this.2.2⟩
  have hpc : pipesC g.ps = (List.range len).flatMap f := by
    rw [pipesC_def]
    show List.flatMap _ ((List.range len).map fun i => pipeOf (f i)) = _
    rw [List.flatMap_map]
    refine flatMap_congr' fun i hi => ?_
    have hi' : i < len := by simpa using hi
    exact (two_of (hf4 i hi').1 (hf4 i hi').2).1.symm
  have hrow : Rep w B noLoc (pipesD false g.ps) y := by
    unfold pipesD
    rw [hpc, hgl]
    exact hrep B
  have hcs : cs = [.int .i8 (numAt cs (0 + 0)), .int .i16 (numAt cs (1 + 0)), .int .i8 (numAt cs (2 + 0)), .int .i8 (numAt cs (2 + 1)), .int .i8 (numAt cs (2 + 2)), .int .i8 (numAt cs (2 + 3)), .int .i8 (numAt cs (2 + 4)), .int .i8 (numAt cs (2 + 5)), .int .i8 (numAt cs (2 + 6)), .int .i8 (numAt cs (2 + 7)), .int .i8 (numAt cs (2 + 8)), .int .i8 (numAt cs (2 + 9)), .int .i8 (numAt cs (2 + 10)), .int .i8 (numAt cs (2 + 11)), .int .i8 (numAt cs (2 + 12)), .int .i8 (numAt cs (2 + 13)), .int .i8 (numAt cs (2 + 14)), .int .i8 (numAt cs (2 + 15)), .int .i8 (numAt cs (2 + 16)), .int .u32 (numAt cs (19 + 0)), y] := by
    apply List.ext_getElem?
    intro i
    by_cases h20 : i < 21
    · have hcase : i = 0 ∨ i = 1 ∨ i = 2 ∨ i = 3 ∨ i = 4 ∨ i = 5 ∨ i = 6 ∨ i = 7 ∨ i = 8 ∨ i = 9 ∨ i = 10 ∨ i = 11 ∨ i = 12 ∨ i = 13 ∨ i = 14 ∨ i = 15 ∨ i = 16 ∨ i = 17 ∨ i = 18 ∨ i = 19 ∨ i = 20 := by omega
      rcases hcase with rfl | rfl | rfl | rfl | rfl | rfl | rfl | rfl | rfl | rfl | rfl | rfl | rfl | rfl | rfl | rfl | rfl | rfl | rfl | rfl | rfl
      · exact c0.1
      · exact c1.1
      · exact (c2 0 (by omega)).1
      · exact (c2 1 (by omega)).1
      · exact (c2 2 (by omega)).1
      · exact (c2 3 (by omega)).1
      · exact (c2 4 (by omega)).1
      · exact (c2 5 (by omega)).1
      · exact (c2 6 (by omega)).1
      · exact (c2 7 (by omega)).1
      · exact (c2 8 (by omega)).1
      · exact (c2 9 (by omega)).1
      · exact (c2 10 (by omega)).1
      · exact (c2 11 (by omega)).1
      · exact (c2 12 (by omega)).1
      · exact (c2 13 (by omega)).1
      · exact (c2 14 (by omega)).1
      · exact (c2 15 (by omega)).1
      · exact (c2 16 (by omega)).1
      · exact c3.1
      · exact c4
    · rw [List.getElem?_eq_none_iff.2 (by omega), List.getElem?_eq_none_iff.2 (by simp; omega)]
  have hy1 : y.oneCell' = true := by
    have := hrow
    unfold pipesD at this
    simp only [Rep] at this
    obtain ⟨a, cap, _, rfl, _⟩ := this
    rfl
  unfold gutD
  simp only [Rep]
  refine ⟨cs, rfl, ?_, ?_⟩
  · rw [hcs]
    exact ⟨_, _, rfl, rep_v rfl, ⟨_, _, rfl, rep_v rfl, ⟨_, _, rfl, rep_v rfl, ⟨_, _, rfl, rep_v rfl, ⟨_, _, rfl, rep_v rfl, ⟨_, _, rfl, rep_v rfl, ⟨_, _, rfl, rep_v rfl, ⟨_, _, rfl, rep_v rfl, ⟨_, _, rfl, rep_v rfl, ⟨_, _, rfl, rep_v rfl, ⟨_, _, rfl, rep_v rfl, ⟨_, _, rfl, rep_v rfl, ⟨_, _, rfl, rep_v rfl, ⟨_, _, rfl, rep_v rfl, ⟨_, _, rfl, rep_v rfl, ⟨_, _, rfl, rep_v rfl, ⟨_, _, rfl, rep_v rfl, ⟨_, _, rfl, rep_v rfl, ⟨_, _, rfl, rep_v rfl, ⟨_, _, rfl, rep_v rfl, ⟨_, _, rfl, hrow, rfl⟩⟩⟩⟩⟩⟩⟩⟩⟩⟩⟩⟩⟩⟩⟩⟩⟩⟩⟩⟩⟩
  · rw [hcs]
    simp only [List.all_cons, List.all_nil, hy1, Bool.and_true]
    rfl
end
end Go.V
/- Words for the top rows: rain; lists of roofs. -/
set_option linter.unusedVariables false
set_option linter.unusedSimpArgs false
namespace Go.V
theorem rai_of {cs : List Value} (hl : cs.length = 17) (h : CellsOk (List.replicate 17 .i16) cs) : ∃ f : Nat → Int, RaiIn f ∧ cs = raiC f := by
  refine ⟨fun i => if i < 17 then numAt cs i else 0, ⟨fun i => ?_⟩, ?_⟩
  · show -32768 ≤ (if i < 17 then numAt cs i else 0) ∧ (if i < 17 then numAt cs i else 0) ≤ 32767
    split
    · rename_i hi
      exact bounds_i16' (cell_at h (i := i) (k := .i16) (by rw [List.getElem?_replicate, if_pos hi])).2
    · omega
  · unfold raiC
    apply List.ext_getElem?
    intro i
    by_cases hi : i < 17
    · rw [tab_get hi, (cell_at h (i := i) (k := .i16) (by rw [List.getElem?_replicate, if_pos hi])).1]
      simp [hi]
    · rw [tab_none (by omega), List.getElem?_eq_none_iff]
      omega
theorem flat_rai (f : Nat → Int) : Flat (.agg ⟨raiC f⟩) = true := flat_tab fun i _ => rfl
section
variable {H : Type} {enc : TypeId × Value → H} {P : Program} {T : Types} {w : World} {base : Nat} {spare : Nat → Bool} {held : Bool}
theorem roofs_of (hT : TOk P T) {t e : TypeId} (ht : P.underlying t = some (.slice e)) (hk : kindsOf T 6 e = some (.i8 :: .i8 :: .u8 :: List.replicate 64 .u8)) (hc : P.cellsOf e = 67) {r : Reach} {b0 : Nat} {v : Value} {d : DataW H} {ps : List MemPlace}
    (hval : Value.okWide P w r b0 t v) (hd : DataW.Trod enc P w base spare held t v d ps) :
    ∃ rs : List Roof, ((∀ i, i < rs.length → (rx rs i).In) ∧ rs.length ≤ 9223372036854775807) ∧ ∀ B, Rep w B noLoc (roofsD false rs) v := by
  obtain ⟨a, len0, cap, rfl⟩ := WideShapes.okWide_slice ht hval
  obtain ⟨fuel, hf⟩ := hd
  obtain ⟨y, len, f, hy, hlen, hf4, hrep⟩ := rows_of hT ht hk (by rw [hc]; rfl) (by decide) hf
  simp only [Value.cells, List.cons.injEq, and_true] at hy
  subst hy
  have hex : ∀ i, ∃ r : Roof, i < len → r.In ∧ f i = roofC r := by
    intro i
    by_cases hi : i < len
    · obtain ⟨r, h1, h2⟩ := roof_of (cs := f i) (by have := (hf4 i hi).1; simpa using this) (hf4 i hi).2
      exact ⟨r, fun _ => ⟨h1, h2⟩⟩
    · exact ⟨zeroR, fun h => absurd h hi⟩
  let g : Nat → Roof := fun i => Classical.choose (hex i)
  have hg : ∀ i, i < len → (g i).In ∧ f i = roofC (g i) := fun i hi => Classical.choose_spec (hex i) hi
  have hrx : ∀ i, i < len → rx ((List.range len).map g) i = g i := fun i hi => by
    unfold rx; rw [List.getD_eq_getElem?_getD]; simp [hi]
  have hmax : maxLen ≤ 9223372036854775807 := by decide
  refine ⟨(List.range len).map g, ⟨fun i hi => ?_, by simp; omega⟩, fun B => ?_⟩
  · have hi' : i < len := by simpa using hi
    rw [hrx i hi']; exact (hg i hi').1
  · have e : roofsC ((List.range len).map g) = (List.range len).flatMap f := by
      rw [roofsC_def, List.flatMap_map]
      exact flatMap_congr' fun i hi => ((hg i (by simpa using hi)).2).symm
    unfold roofsD
    rw [e, List.length_map, List.length_range]
    exact hrep B
end
end Go.V
/- Top words: lists of places that come in. -/
set_option linter.unusedVariables false
set_option linter.unusedSimpArgs false
namespace Go.V
open Go.ChangeShapes Go.WideShapes
section
variable {H : Type} {enc : TypeId × Value → H} {P : Program} {T : Types} {w : World} {base : Nat} {spare : Nat → Bool} {held : Bool}
theorem places_of (hT : TOk P T) {t e : TypeId} (ht : P.underlying t = some (.slice e)) (hk : kindsOf T 6 e = some [.i8, .i8]) (hc : P.cellsOf e = 2) {r : Reach} {b0 : Nat} {d : DataW H} {v : Value} {ms : List MemPlace} (hval : Value.okWide P w r b0 t v) (hd : DataW.Trod enc P w base spare held t v d ms) :
    ∃ ps : List (Int × Int), (AllQ ps ∧ ps.length ≤ 9223372036854775807) ∧ ∀ B, Rep w B noLoc (pqD false ps) v := by
  obtain ⟨a, len0, cap, rfl⟩ := WideShapes.okWide_slice ht hval
  obtain ⟨fuel, hf⟩ := hd
  obtain ⟨y, len, f, hy, hlen, hf4, hrep⟩ := rows_of hT ht hk (by rw [hc]; rfl) (by decide) hf
  have hmax : maxLen ≤ 9223372036854775807 := by decide
  refine ⟨(List.range len).map fun i => pipeOf (f i), ⟨fun i hi => ?_, by simp; omega⟩, fun B => ?_⟩
  · have hi' : i < len := by simpa using hi
    have : px ((List.range len).map fun i => pipeOf (f i)) i = pipeOf (f i) := by
      unfold px
      rw [List.getD_eq_getElem?_getD]
      simp [hi']
    rw [this]
    have := two_of (hf4 i hi').1 (hf4 i hi').2
    exact ⟨bounds_i8 this.2.1, bounds_i8 this.2.2⟩
  · have hpc : pqC ((List.range len).map fun i => pipeOf (f i)) = (List.range len).flatMap f := by
      rw [pqC_def, List.flatMap_map]
      refine flatMap_congr' fun i hi => ?_
      have hi' : i < len := by simpa using hi
      exact (two_of (hf4 i hi').1 (hf4 i hi').2).1.symm
    simp only [Value.cells, List.cons.injEq, and_true] at hy
    rw [hy]
    unfold pqD
    rw [hpc, List.length_map, List.length_range]
    exact hrep B
end
end Go.V
