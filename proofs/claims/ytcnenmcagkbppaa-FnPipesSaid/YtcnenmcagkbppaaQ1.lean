import Derived.Test.YtcnenmcagkbppaaP1
import Derived.WalkKit
import Derived.ProofKit
import Derived.OpenShut
import Derived.ShutString
import Derived.ChangeOld
import Derived.SizedLaws
import Derived.ChangeSlices
import Derived.Test.YtcnenmcagkbppaaP4
set_option linter.unusedVariables false
set_option linter.unusedSimpArgs false
/- Words for the top rows: from a contract to what the row asks; how arguments made of whole numbers alone are opened. -/
set_option linter.unusedVariables false
set_option linter.unusedSimpArgs false
namespace Go.V

theorem Sat.walk {P : Program} {g : FuncId} {args : List D} {vs : List Value} {b : Bool} {w : World} (h : Sat P g args (.v (.bool b))) (hg : GlobOk w noLoc) (hr : RepL w w.heap.size noLoc args vs) :
    Calls P g ⟨vs⟩ w fun e w' => e = .returned (.bool b) ∧ RowKit.Below w.heap.size w w' := by
  refine Calls.mono (h.2 w vs hg hr) ?_
  rintro e w' ⟨y, loc, rfl, hb, hres⟩
  have : y = .bool b := by
    have h1 : Rep w' w.heap.size loc (.v (.bool b)) y := hres.rep
    simp only [Rep] at h1
    exact h1.1
  exact ⟨by rw [this], hb⟩

/-- The kinds of the cells of a type made of whole numbers alone. -/
def kindsFs (f : TypeId → Option (List IntKind)) : Nat → List (Nat × TypeId) → Option (List IntKind)
  | _, [] => some []
  | o, (fo, ft) :: r => bif fo == o then (match f ft with
    | some ks => (match kindsFs f (o + ks.length) r with | some l => some (ks ++ l) | none => none)
    | none => none) else none
def kindsOf (T : Types) : Nat → TypeId → Option (List IntKind)
  | 0, _ => none
  | n + 1, t => match T t with
    | some ⟨.int k, _, _, _⟩ => some [k]
    | some ⟨.arr m e, _, _, _⟩ => (match T e with
      | some i => kindsFs (kindsOf T n) 0 ((List.range m).map fun j => (j * i.size, e))
      | none => none)
    | some ⟨.struct fs, _, _, _⟩ => kindsFs (kindsOf T n) 0 fs
    | _ => none
def CellsOk (ks : List IntKind) (cs : List Value) : Prop := ∀ (i : Nat) (k : IntKind), ks[i]? = some k → ∃ z : Int, cs[i]? = some (Value.int k z) ∧ (Lit.int k z).wf = true

section
variable {H : Type} {enc : TypeId × Value → H} {P : Program} {T : Types} {w : World} {base : Nat} {spare : Nat → Bool} {held : Bool}
theorem cellsOf_eq {t : TypeId} {i : TI} (h : TIOk P t i) : P.cellsOf t = i.size := by
  obtain ⟨ti, h1, h2, _⟩ := h.info
  simp [Program.cellsOf, h1, h2]

theorem cells_fs {f : TypeId → Option (List IntKind)} {fuel : Nat} {cs : List Value}
    (hf : ∀ t ks cs x, f t = some ks → DataW.trod enc P w base spare held fuel t cs = some x → CellsOk ks cs) :
    ∀ (fs : List (Nat × TypeId)) (o : Nat) (ks : List IntKind), kindsFs f o fs = some ks → (∀ q ∈ fs, ∃ x, DataW.trod enc P w base spare held fuel q.2 ((cs.drop q.1).take (P.cellsOf q.2)) = some x) → CellsOk ks (cs.drop o)
  | [], o, ks, h, _ => by
    simp only [kindsFs, Option.some.injEq] at h
    subst h
    intro i k hi; simp at hi
  | (fo, ft) :: r, o, ks, h, hx => by
    simp only [kindsFs] at h
    cases he : (fo == o) <;> simp only [he, cond_true, cond_false] at h
    · cases h
    simp only [beq_iff_eq] at he
    subst he
    split at h
    · rename_i ks1 hk1
      split at h
      · rename_i l hl
        simp only [Option.some.injEq] at h
        subst h
        obtain ⟨x, hx1⟩ := hx (fo, ft) (by simp)
        have h1 := hf _ _ _ _ hk1 hx1
        have h2 := cells_fs hf r _ _ hl fun q hq => hx q (by simp [hq])
        intro i k hi
        rw [List.getElem?_append] at hi
        split at hi
        · obtain ⟨z, g1, g2⟩ := h1 i k hi
          rw [List.getElem?_take] at g1
          split at g1
          · exact ⟨z, g1, g2⟩
          · cases g1
        · rename_i hge
          obtain ⟨z, g1, g2⟩ := h2 _ k hi
          refine ⟨z, ?_, g2⟩
          rw [← g1]
          simp only [List.getElem?_drop]
          congr 1
          omega
      · cases h
    · cases h

theorem kinds_ok (hT : TOk P T) : ∀ (n : Nat) (t : TypeId) (ks : List IntKind), kindsOf T n t = some ks → ∀ (fuel : Nat) (cs : List Value) (x : DataW H × List MemPlace), DataW.trod enc P w base spare held fuel t cs = some x → CellsOk ks cs
  | 0, t, ks, h, _, _, _, _ => by simp [kindsOf] at h
  | n + 1, t, ks, h, fuel, cs, x, hx => by
    have ih := kinds_ok hT n
    simp only [kindsOf] at h
    split at h
    · rename_i k a b c hi
      simp only [Option.some.injEq] at h
      subst h
      have hu := (hT t _ hi).und
      simp only [UOk] at hu
      obtain ⟨z, rfl, _, hw⟩ := DataW.trod_int hu hx
      intro i k' hk'
      cases i with
      | zero => simp at hk'; subst hk'; exact ⟨z, rfl, hw⟩
      | succ i => simp at hk'
    · rename_i m e a b c hi
      have hu := (hT t _ hi).und
      simp only [UOk] at hu
      split at h
      · rename_i ie he
        obtain ⟨xs, fuel', _, _, hl, hxs, hel⟩ := DataW.trod_array hu hx
        have := cells_fs (fuel := fuel') (fun t ks cs x hk hx => ih t ks hk fuel' cs x hx) (cs := cs) _ 0 ks h (fun q hq => by
          rw [List.mem_map] at hq
          obtain ⟨j, hj, rfl⟩ := hq
          rw [List.mem_range] at hj
          have hj' : j < xs.length := by omega
          refine ⟨xs[j], ?_⟩
          have := hel j hj
          rw [← cellsOf_eq (hT e _ he), this]
          simp [hj'])
        simpa using this
      · cases h
    · rename_i fs a b c hi
      have hu := (hT t _ hi).und
      simp only [UOk] at hu
      obtain ⟨fields, hu, hfs⟩ := hu
      obtain ⟨xs, fuel', _, _, hl, hxs, hel⟩ := DataW.trod_struct hu hx
      have := cells_fs (fuel := fuel') (fun t ks cs x hk hx => ih t ks hk fuel' cs x hx) (cs := cs) _ 0 ks h (fun q hq => by
        rw [← hfs, List.mem_map] at hq
        obtain ⟨F, hF, rfl⟩ := hq
        obtain ⟨j, hj, hjF⟩ := List.mem_iff_getElem.1 hF
        have hj' : j < xs.length := by rw [hxs]; simpa using hj
        refine ⟨xs[j], ?_⟩
        have hsome : fields[j]? = some F := by
          have hj2 : j < fields.size := by simpa using hj
          rw [Array.getElem?_eq_getElem hj2]
          simpa using hjF
        rw [hel j F hsome]
        simp [hj'])
      simpa using this
    · cases h

theorem open_cells (hT : TOk P T) {n : Nat} {t : TypeId} {i : TI} {ks : List IntKind} (hi : T t = some i) (hagg : i.isAgg = true) (hk : kindsOf T n t = some ks) (hl : i.size = ks.length)
    {r : Reach} {b0 : Nat} {v : Value} {d : DataW H} {ps : List MemPlace} (hval : Value.okWide P w r b0 t v) (hd : DataW.Trod enc P w base spare held t v d ps) :
    ∃ cs, v = .agg ⟨cs⟩ ∧ cs.length = ks.length ∧ CellsOk ks cs := by
  have hok := hT t i hi
  have hv : ∃ cs : Array Value, v = .agg cs ∧ cs.size = P.cellsOf t := by
    unfold Value.okWide at hval
    have hu := hok.und
    obtain ⟨u, sz, bs, z⟩ := i
    cases u <;> simp only [TI.isAgg] at hagg <;> first | (cases hagg; done) | skip
    · simp only [UOk] at hu
      rw [hu] at hval
      obtain ⟨cs, h1, h2, _⟩ := hval
      exact ⟨cs, h1, h2⟩
    · simp only [UOk] at hu
      obtain ⟨fields, hu, _⟩ := hu
      rw [hu] at hval
      obtain ⟨cs, h1, h2, _⟩ := hval
      exact ⟨cs, h1, h2⟩
  obtain ⟨cs, rfl, hsz⟩ := hv
  obtain ⟨fuel, hf⟩ := hd
  refine ⟨cs.toList, rfl, ?_, kinds_ok hT n t ks hk fuel _ _ hf⟩
  rw [Array.length_toList, hsz, cellsOf_eq hok, hl]
end

def numAt (cs : List Value) (i : Nat) : Int := match cs[i]? with | some (.int _ z) => z | _ => 0
theorem cell_at {ks : List IntKind} {cs : List Value} (h : CellsOk ks cs) {i : Nat} {k : IntKind} (hi : ks[i]? = some k) : cs[i]? = some (.int k (numAt cs i)) ∧ (Lit.int k (numAt cs i)).wf = true := by
  obtain ⟨z, h1, h2⟩ := h i k hi
  have : numAt cs i = z := by simp [numAt, h1]
  rw [this]
  exact ⟨h1, h2⟩

/-- Rows of bytes. -/
theorem bytes_of {cs : List Value} {n : Nat} (hl : cs.length = n) (h : CellsOk (List.replicate n .u8) cs) : ∃ f : Nat → Int, (∀ i, 0 ≤ f i ∧ f i ≤ 255) ∧ cs = tab n fun i => .int .u8 (f i) := by
  refine ⟨fun i => if i < n then numAt cs i else 0, fun i => ?_, ?_⟩
  · dsimp only
    split
    · rename_i hi
      have := (cell_at h (i := i) (k := .u8) (by simp [List.getElem?_replicate, hi])).2
      exact bounds_u8 this
    · omega
  · apply List.ext_getElem?
    intro i
    by_cases hi : i < n
    · rw [tab_get hi, (cell_at h (i := i) (k := .u8) (by simp [List.getElem?_replicate, hi])).1]
      simp [hi]
    · rw [tab_none (by omega), List.getElem?_eq_none_iff]
      omega

theorem grid_of {cs : List Value} (hl : cs.length = 64) (h : CellsOk (List.replicate 64 .u8) cs) : ∃ t : Nat → Nat → Int, (∀ c k, 0 ≤ t c k ∧ t c k ≤ 255) ∧ cs = grid t := by
  obtain ⟨f, hf, rfl⟩ := bytes_of hl h
  refine ⟨fun c k => f (c * 8 + k), fun c k => hf _, ?_⟩
  unfold grid
  apply tab_congr
  intro i hi
  dsimp only
  rw [show i / 8 * 8 + i % 8 = i by omega]

theorem row_of {cs : List Value} (hl : cs.length = 8) (h : CellsOk (List.replicate 8 .u8) cs) : ∃ f : Nat → Int, (∀ i, 0 ≤ f i ∧ f i ≤ 255) ∧ cs = row8 f := bytes_of hl h

theorem roof_of {cs : List Value} (hl : cs.length = 67) (h : CellsOk (.i8 :: .i8 :: .u8 :: List.replicate 64 .u8) cs) : ∃ r : Roof, r.In ∧ cs = roofC r := by
  match cs, hl with
  | a :: b :: c :: rest, hl =>
    have h0 := h 0 .i8 rfl
    have h1 := h 1 .i8 rfl
    have h2 := h 2 .u8 rfl
    obtain ⟨z0, e0, w0⟩ := h0
    obtain ⟨z1, e1, w1⟩ := h1
    obtain ⟨z2, e2, w2⟩ := h2
    simp only [List.getElem?_cons_zero, List.getElem?_cons_succ, Option.some.injEq] at e0 e1 e2
    subst e0 e1 e2
    obtain ⟨t, ht, rfl⟩ := grid_of (cs := rest) (by simpa using hl) (fun i k hi => by
      obtain ⟨z, g1, g2⟩ := h (i + 3) k (by simpa using hi)
      exact ⟨z, by simpa using g1, g2⟩)
    exact ⟨⟨z0, z1, z2, t⟩, ⟨bounds_i8 w0, bounds_i8 w1, bounds_u8 w2, ht⟩, rfl⟩

theorem flat_tab {n : Nat} {f : Nat → Value} (h : ∀ i, i < n → (f i).oneCell' = true) : Flat (.agg ⟨tab n f⟩) = true := by
  simp only [Flat, List.all_eq_true]
  intro x hx
  obtain ⟨i, hi, rfl⟩ := List.mem_iff_getElem.1 hx
  have hi' : i < n := by simpa using hi
  have := tab_get (f := f) hi'
  rw [List.getElem?_eq_getElem hi] at this
  simp only [Option.some.injEq] at this
  rw [this]
  exact h i hi'
theorem flat_row (f : Nat → Int) : Flat (.agg ⟨row8 f⟩) = true := flat_tab fun i _ => rfl
theorem flat_grid (t : Nat → Nat → Int) : Flat (.agg ⟨grid t⟩) = true := flat_tab fun i _ => rfl
theorem flat_roof (r : Roof) : Flat (.agg ⟨roofC r⟩) = true := by
  have := flat_grid r.t
  simp only [Flat, List.all_eq_true] at this ⊢
  intro x hx
  unfold roofC at hx
  simp only [List.mem_cons] at hx
  rcases hx with rfl | rfl | rfl | hx
  · rfl
  · rfl
  · rfl
  · exact this x hx
theorem rep_v {w : World} {b : Nat} {loc : Loc} {x : Value} (h : Flat x = true) : Rep w b loc (.v x) x := by simp only [Rep]; exact ⟨trivial, h⟩
end Go.V
/- Words for the top rows: arguments that are lists of whole numbers. -/
set_option linter.unusedVariables false
set_option linter.unusedSimpArgs false
namespace Go.V
section
variable {H : Type} {enc : TypeId × Value → H} {P : Program} {w : World} {base : Nat} {spare : Nat → Bool} {held : Bool}
/-- Cells one after another, at an address. -/
theorem at_cells {a : Addr} {xs : List Value} (h : ∀ i x, xs[i]? = some x → w.cell? (a.add i) = some x) (hpos : xs.length ≠ 0) : ∃ b o, a = ⟨b, o, none⟩ ∧ At w b o xs := by
  obtain ⟨b, o, sp⟩ := a
  obtain ⟨x0, h0⟩ : ∃ x0, xs[0]? = some x0 := ⟨xs[0], by simp⟩
  have c0 := h 0 x0 h0
  simp only [Addr.add, if_true] at c0
  unfold World.cell? at c0
  split at c0
  · rename_i c e fr hb
    simp only at hb c0
    have hs : sp = none := by
      cases sp with
      | none => rfl
      | some s => simp at c0
    subst hs
    refine ⟨b, o, rfl, c, e, fr, hb, ?_, ?_⟩
    · have hl : xs.length - 1 < xs.length := by omega
      have c1 := h (xs.length - 1) xs[xs.length - 1] (by simp)
      have : ({ block := b, off := o, spot := none } : Addr).add (xs.length - 1) = ⟨b, o + (xs.length - 1), none⟩ := by
        unfold Addr.add; split
        · rename_i e0; rw [e0]; rfl
        · rfl
      rw [this] at c1
      unfold World.cell? at c1
      rw [hb] at c1
      simp only [Option.isSome_none, Bool.false_eq_true, if_false] at c1
      have := (Array.getElem?_eq_some_iff.1 c1).1
      omega
    · apply List.ext_getElem?
      intro i
      by_cases hi : i < xs.length
      · have hx : xs[i]? = some xs[i] := by simp [hi]
        have c1 := h i xs[i] hx
        have : ({ block := b, off := o, spot := none } : Addr).add i = ⟨b, o + i, none⟩ := by
          unfold Addr.add; split
          · rename_i e0; rw [e0]; rfl
          · rfl
        rw [this] at c1
        unfold World.cell? at c1
        rw [hb] at c1
        simp only [Option.isSome_none, Bool.false_eq_true, if_false] at c1
        rw [List.getElem?_take, if_pos hi, List.getElem?_drop, hx, ← c1]
        simp
      · rw [List.getElem?_take, if_neg hi, List.getElem?_eq_none_iff.2 (by omega)]
  · cases c0

theorem ints_of {t e : TypeId} {k : IntKind} (ht : P.underlying t = some (.slice e)) (he : P.underlying e = some (.int k)) (hc : P.cellsOf e = 1) {r : Reach} {b0 : Nat} {v : Value} {d : DataW H} {ps : List MemPlace}
    (hval : Value.okWide P w r b0 t v) (hd : DataW.Trod enc P w base spare held t v d ps) :
    ∃ xs : List Int, (∀ x ∈ xs, (Lit.int k x).wf = true) ∧ ∀ B, Rep w B noLoc (.row false 1 (.v (.agg ⟨xs.map (Value.int k)⟩)) xs.length) v := by
  obtain ⟨a, len, cap, rfl⟩ := WideShapes.okWide_slice ht hval
  obtain ⟨fuel, hf⟩ := hd
  have flat : ∀ zs : List Int, Flat (.agg ⟨zs.map (Value.int k)⟩) = true := by
    intro zs
    simp only [Flat, List.all_eq_true]
    intro x hx
    obtain ⟨z, _, rfl⟩ := List.mem_map.1 hx
    rfl
  rcases Go.ChangeShapes.open_ints ht he hc hf with ⟨h1, _⟩ | ⟨a', len', cap', zs, h1, _, h3, _, h5, _, h7, h8⟩
  · simp only [Value.cells, List.cons.injEq, Value.slice.injEq, and_true] at h1
    obtain ⟨rfl, rfl, rfl⟩ := h1
    refine ⟨[], by simp, fun B => ?_⟩
    simp only [Rep]
    exact ⟨none, 0, [], rfl, Nat.le_refl _, ⟨rfl, rfl⟩, rfl, .inl rfl, by simp⟩
  · simp only [Value.cells, List.cons.injEq, Value.slice.injEq, and_true] at h1
    obtain ⟨rfl, rfl, rfl⟩ := h1
    have hle : len ≤ zs.length := by rw [h5]; split <;> omega
    refine ⟨zs.take len, fun x hx => h8 x (List.mem_of_mem_take hx), fun B => ?_⟩
    have hl : (zs.take len).length = len := by simp; omega
    simp only [Rep]
    refine ⟨some a', cap, (zs.take len).map (Value.int k), by rw [hl], by rw [hl]; exact h3, ⟨rfl, flat _⟩, by simp, ?_, by simp⟩
    by_cases h0 : len = 0
    · left; rw [hl, h0]
    · right
      obtain ⟨b, o, rfl, hat⟩ := at_cells (w := w) (a := a') (xs := (zs.take len).map (Value.int k)) (fun i x hx => by
        rw [List.getElem?_map, List.getElem?_take] at hx
        split at hx
        · rename_i hi
          cases hz : zs[i]? with
          | none => rw [hz] at hx; simp at hx
          | some z =>
            rw [hz] at hx
            simp only [Option.map_some, Option.some.injEq] at hx
            subst hx
            have := h7 i (by omega)
            rw [List.getD_eq_getElem?_getD, hz] at this
            exact this
        · simp at hx) (by rw [List.length_map, hl]; exact h0)
      exact ⟨b, o, rfl, hat, fun _ _ => by simp [noLoc], by simp⟩
theorem ints_wf {xs : List Int} (h : ∀ x ∈ xs, (Lit.int .i64 x).wf = true) : ∀ i, i < xs.length → I64 (ix xs i) := by
  intro i hi
  have hm : ix xs i ∈ xs := by
    unfold ix
    rw [List.getD_eq_getElem?_getD]
    simp [hi]
  exact bounds_i64 (h _ hm)
theorem ints_rep {xs : List Int} {v : Value} (h : ∀ B, Rep w B noLoc (.row false 1 (.v (.agg ⟨xs.map (Value.int .i64)⟩)) xs.length) v) (B : Nat) : Rep w B noLoc (intsD false xs) v := by
  unfold intsD
  rw [intsC_def]
  exact h B
end
end Go.V
/- Words for the top rows: arguments that are rows of bytes. -/
set_option linter.unusedVariables false
set_option linter.unusedSimpArgs false
namespace Go.V
section
variable {w : World}
theorem bytes_wf {xs : List Int} (h : ∀ x ∈ xs, (Lit.int .u8 x).wf = true) : Bytes xs := by
  intro i hi
  have hm : ix xs i ∈ xs := by
    unfold ix
    rw [List.getD_eq_getElem?_getD]
    simp [hi]
  have := bounds_u8 (h _ hm)
  exact ⟨by omega, by omega⟩
theorem bytes_rep {xs : List Int} {v : Value} (h : ∀ B, Rep w B noLoc (.row false 1 (.v (.agg ⟨xs.map (Value.int .u8)⟩)) xs.length) v) (B : Nat) : Rep w B noLoc (u8D false xs) v := by
  unfold u8D
  rw [u8C_def]
  exact h B
end
end Go.V
