/- Plain words: values of arrays and structs of whole numbers compared. -/
import Derived.Test.YtndlknhakdadjaaB4
import Derived.DeepKeys
set_option linter.unusedVariables false
set_option linter.unusedSimpArgs false
namespace Go.V
def litOf : Value → Lit
  | .int k z => .int k z
  | _ => .bool false
def litsOf (cs : List Value) : List Lit := cs.map litOf
/-- A cell with a whole number that its kind has. -/
def IntCell : Value → Prop
  | .int k z => (Lit.int k z).wf = true
  | _ => False
theorem litsOf_inj : ∀ {xs ys : List Value}, (∀ x ∈ xs, IntCell x) → (∀ y ∈ ys, IntCell y) → litsOf xs = litsOf ys → xs = ys
  | [], [], _, _, _ => rfl
  | [], y :: ys, _, _, h => by simp [litsOf] at h
  | x :: xs, [], _, _, h => by simp [litsOf] at h
  | x :: xs, y :: ys, hx, hy, h => by
    simp only [litsOf, List.map_cons, List.cons.injEq] at h
    have h1 := hx x (by simp)
    have h2 := hy y (by simp)
    have := litsOf_inj (fun z hz => hx z (by simp [hz])) (fun z hz => hy z (by simp [hz])) h.2
    subst this
    cases x <;> simp only [IntCell] at h1
    cases y <;> simp only [IntCell] at h2
    have h3 := h.1
    simp only [litOf, Lit.int.injEq] at h3
    rw [h3.1, h3.2]
theorem mapM_some {α β : Type} {f : α → Option β} {g : α → β} : ∀ (l : List α), (∀ x ∈ l, f x = some (g x)) → l.mapM f = some (l.map g)
  | [], _ => rfl
  | x :: l, h => by
    rw [List.mapM_cons, h x (by simp), mapM_some l fun y hy => h y (by simp [hy])]
    rfl
theorem chunks (c : Nat) : ∀ (n : Nat) (cs : List Value), cs.length = n * c → ((List.range n).map fun i => (cs.drop (i * c)).take c).flatten = cs
  | 0, cs, h => by
    have : cs = [] := List.length_eq_zero_iff.1 (by simpa using h)
    simp [this]
  | n + 1, cs, h => by
    rw [Nat.succ_mul] at h
    have e : ((List.range (n + 1)).map fun i => (cs.drop (i * c)).take c) = (cs.take c) :: ((List.range n).map fun i => ((cs.drop c).drop (i * c)).take c) := by
      rw [List.range_succ_eq_map, List.map_cons, List.map_map]
      congr 1
      · simp
      · apply List.map_congr_left
        intro i _
        simp only [Function.comp, List.drop_drop]
        rw [Nat.succ_mul, Nat.add_comm]
    rw [e, List.flatten_cons, chunks c n (cs.drop c) (by simp; omega), List.take_append_drop]
section
variable {P : Program}
theorem keyLits_int {d : Nat} {e : TypeId} {k : IntKind} {z : Int} (hu : P.underlying e = some (.int k)) (hw : (Lit.int k z).wf = true) : P.keyLits (d + 1) e [.int k z] = some (litsOf [.int k z]) := by
  unfold Program.keyLits
  simp [hu, hw, litsOf, litOf]
theorem keyLits_array {d : Nat} {t e : TypeId} {n : Nat} {cs : List Value} (hu : P.underlying t = some (.array n e)) (hs : P.cellsOf t = n * P.cellsOf e) (hl : cs.length = n * P.cellsOf e)
    (he : ∀ i, i < n → P.keyLits d e ((cs.drop (i * P.cellsOf e)).take (P.cellsOf e)) = some (litsOf ((cs.drop (i * P.cellsOf e)).take (P.cellsOf e)))) : P.keyLits (d + 1) t cs = some (litsOf cs) := by
  unfold Program.keyLits
  simp only [hu]
  rw [if_pos (by rw [hl, hs])]
  rw [mapM_some (g := fun i => litsOf ((cs.drop (i * P.cellsOf e)).take (P.cellsOf e))) _ (fun i hi => he i (by simpa using hi))]
  simp only [Option.map_some, Option.some.injEq]
  have := chunks (P.cellsOf e) n cs hl
  conv => rhs; rw [← this]
  unfold litsOf
  rw [List.map_flatten, List.map_map]
  rfl
theorem keyLits_struct {d : Nat} {t : TypeId} {fs : Array Field} {cs : List Value} (hu : P.underlying t = some (.struct fs)) (hs : cs.length = P.cellsOf t) (hn : fs.all (·.name != "_") = true)
    (hf : ∀ f ∈ fs.toList, P.keyLits d f.type ((cs.drop f.offset).take (P.cellsOf f.type)) = some (litsOf ((cs.drop f.offset).take (P.cellsOf f.type))))
    (hc : (fs.toList.map fun f => (cs.drop f.offset).take (P.cellsOf f.type)).flatten = cs) : P.keyLits (d + 1) t cs = some (litsOf cs) := by
  unfold Program.keyLits
  simp only [hu]
  rw [if_pos ⟨hs, hn⟩]
  rw [mapM_some (g := fun f => litsOf ((cs.drop f.offset).take (P.cellsOf f.type))) _ hf]
  simp only [Option.map_some, Option.some.injEq]
  conv => rhs; rw [← hc]
  unfold litsOf
  rw [List.map_flatten, List.map_map]
  rfl
/-- An array of whole numbers. -/
theorem keyLits_ints {d : Nat} {t e : TypeId} {n : Nat} {k : IntKind} {cs : List Value} (hu : P.underlying t = some (.array n e)) (hue : P.underlying e = some (.int k)) (he1 : P.cellsOf e = 1) (hs : P.cellsOf t = n) (hl : cs.length = n)
    (hk : ∀ (i : Nat) (x : Value), cs[i]? = some x → ∃ z, x = Value.int k z ∧ (Lit.int k z).wf = true) : P.keyLits (d + 2) t cs = some (litsOf cs) := by
  refine keyLits_array hu (by rw [he1, hs, Nat.mul_one]) (by rw [he1, hl, Nat.mul_one]) (fun i hi => ?_)
  rw [he1, Nat.mul_one]
  have hx : cs[i]? = some cs[i] := by simp [hl, hi]
  obtain ⟨z, h1, h2⟩ := hk i _ hx
  have e : (cs.drop i).take 1 = [.int k z] := by
    rw [List.drop_eq_getElem_cons (by omega), h1]
    rfl
  rw [e]
  exact keyLits_int hue h2
theorem eqAgg_of {t : TypeId} {m : Nat} {xs ys : List Value} (hm : m ≤ 10000) (hk : P.keyTypeAt m t = true) (hg : P.eqGuardType P.depth t = false) (fx : Value.formed P t (.agg ⟨xs⟩) = true) (fy : Value.formed P t (.agg ⟨ys⟩) = true) {D D' : Nat}
    (hx : P.keyLits D t xs = some (litsOf xs)) (hy : P.keyLits D' t ys = some (litsOf ys)) (hix : ∀ x ∈ xs, IntCell x) (hiy : ∀ y ∈ ys, IntCell y) {r : Bool} (hr0 : r = true ↔ xs = ys) : EqAgg P t xs ys r := by
  intro w
  refine ⟨fun op x y => run_eqGuard_agg w op t x y ⟨xs⟩ ⟨ys⟩ hg, ?_⟩
  obtain ⟨r', hr, hiff⟩ := run_equalIn_deep (10000 - m) m t hk w D D' (.agg ⟨xs⟩) (.agg ⟨ys⟩) _ _ fx fy hx hy
  have e : (Op.equal t (.agg ⟨xs⟩) (.agg ⟨ys⟩)).run P w = .ok r' w := by
    unfold Op.equal Op.maxDepth
    rw [show 10000 = 10000 - m + m by omega]
    exact hr
  rw [e]
  congr 1
  rw [Bool.eq_iff_iff, hiff, hr0]
  exact ⟨litsOf_inj hix hiy, fun h => by rw [h]⟩
end
end Go.V
