/-
  No cell of these rows narrows 'for every input' (looked for: loops, veiled, ifaces, maps, wideKeys, modest, calm, conditions, laid).
  DERIVED. THE GIVEN ROWS OF THIS SEAT. 6 by the template 'for every input the law returns true; each argument reads behind the call as it read before'; 0 by the template 'total and deterministic' (their statements: YtejncabmppobfaaTotals.lean).
  GIVEN WITH THE SEED: the statements are not yours to turn. If you find one false, say at which input.
  Laid BY PROGRAM, IN A SANDBOX (cutbox-rows.mjs): the forced cells as the released guide's own fill.sh prints them over the translation ee98168e1f063490… (all of the seat's roots in one cut). By AI agents, Wed Nov 11 2026. No macro, syntax, notation, axiom, sorry.
-/
import Derived.Test.YtejncabmppobfaaChecked
import GoSem.Claim
import GoSem.ClaimJoined
import GoSem.ClaimMapViews
import Derived.JoinedTies
import Derived.KernelRfl
namespace Go.Proofs.Ytejncabmppobfaa
/- THE CELL 'sum', in the pinned program and in every row, IS THE sha256 OF THE DUMP (.gsa) THAT YtejncabmppobfaaProg.lean LOADS. Nothing in Lean hashes anything: it is a label: what it is worth is what the hold of that sum in a sandbox is worth. -/
noncomputable def Try.pinned : Pinned := { name := "ytejncabmppobfaa", sum := "ee98168e1f06349080c9abfa966440be637998f14b7309122ae02490fcbc90ec", checked := Try.checked }
namespace Rows
def none {H : Type} : Left H := { results := [], args := [] }

/-- 'laws.FnExactNeedlessRepairs': WHATEVER THE INPUT: true; the input reads as it did. -/
def fnExactNeedlessRepairsSpec : ChangeSpec := { name := "fnExactNeedlessRepairs", fn := fun _ => fun
  | [d1, d2, d3, d4] => { results := [.lit (.bool true)], args := [d1, d2, d3, d4] }
  | _ => none }
def fnExactNeedlessRepairsRow : OpenClaim := { program := "ytejncabmppobfaa", sum := "ee98168e1f06349080c9abfa966440be637998f14b7309122ae02490fcbc90ec", func := "loop.example/g01376/laws.FnExactNeedlessRepairs", spec := "fnExactNeedlessRepairs", unfollowed := true, recurses := true, plainKeys := false, apart := false }
def FnExactNeedlessRepairsSaid : Prop := fnExactNeedlessRepairsRow.holds Try.pinned (OpenSpec.ofChange fnExactNeedlessRepairsSpec)

/-- ITS FALSE NEIGHBOUR: 'it returns false'. Refute it at one input. -/
def fnExactNeedlessRepairsWrong : ChangeSpec := { name := "fnExactNeedlessRepairs", fn := fun _ => fun
  | [d1, d2, d3, d4] => { results := [.lit (.bool false)], args := [d1, d2, d3, d4] }
  | _ => none }
def FnExactNeedlessRepairsWrongFalsely : Prop := fnExactNeedlessRepairsRow.holds Try.pinned (OpenSpec.ofChange fnExactNeedlessRepairsWrong)

/-- 'laws.FnExactCountRoofs': WHATEVER THE INPUT: true; the input reads as it did. -/
def fnExactCountRoofsSpec : ChangeSpec := { name := "fnExactCountRoofs", fn := fun _ => fun
  | [d1, d2, d3] => { results := [.lit (.bool true)], args := [d1, d2, d3] }
  | _ => none }
def fnExactCountRoofsRow : OpenClaim := { program := "ytejncabmppobfaa", sum := "ee98168e1f06349080c9abfa966440be637998f14b7309122ae02490fcbc90ec", func := "loop.example/g01376/laws.FnExactCountRoofs", spec := "fnExactCountRoofs", unfollowed := true, recurses := true, plainKeys := false, apart := false }
def FnExactCountRoofsSaid : Prop := fnExactCountRoofsRow.holds Try.pinned (OpenSpec.ofChange fnExactCountRoofsSpec)

/-- ITS FALSE NEIGHBOUR: 'it returns false'. Refute it at one input. -/
def fnExactCountRoofsWrong : ChangeSpec := { name := "fnExactCountRoofs", fn := fun _ => fun
  | [d1, d2, d3] => { results := [.lit (.bool false)], args := [d1, d2, d3] }
  | _ => none }
def FnExactCountRoofsWrongFalsely : Prop := fnExactCountRoofsRow.holds Try.pinned (OpenSpec.ofChange fnExactCountRoofsWrong)

/-- 'laws.FnExactMayBe': WHATEVER THE INPUT: true; the input reads as it did. -/
def fnExactMayBeSpec : ChangeSpec := { name := "fnExactMayBe", fn := fun _ => fun
  | [d1, d2, d3, d4, d5] => { results := [.lit (.bool true)], args := [d1, d2, d3, d4, d5] }
  | _ => none }
def fnExactMayBeRow : OpenClaim := { program := "ytejncabmppobfaa", sum := "ee98168e1f06349080c9abfa966440be637998f14b7309122ae02490fcbc90ec", func := "loop.example/g01376/laws.FnExactMayBe", spec := "fnExactMayBe", unfollowed := true, recurses := true, plainKeys := false, apart := false }
def FnExactMayBeSaid : Prop := fnExactMayBeRow.holds Try.pinned (OpenSpec.ofChange fnExactMayBeSpec)

/-- ITS FALSE NEIGHBOUR: 'it returns false'. Refute it at one input. -/
def fnExactMayBeWrong : ChangeSpec := { name := "fnExactMayBe", fn := fun _ => fun
  | [d1, d2, d3, d4, d5] => { results := [.lit (.bool false)], args := [d1, d2, d3, d4, d5] }
  | _ => none }
def FnExactMayBeWrongFalsely : Prop := fnExactMayBeRow.holds Try.pinned (OpenSpec.ofChange fnExactMayBeWrong)

/-- 'laws.FnExactFewestWrong': WHATEVER THE INPUT: true; the input reads as it did. -/
def fnExactFewestWrongSpec : ChangeSpec := { name := "fnExactFewestWrong", fn := fun _ => fun
  | [d1, d2, d3] => { results := [.lit (.bool true)], args := [d1, d2, d3] }
  | _ => none }
def fnExactFewestWrongRow : OpenClaim := { program := "ytejncabmppobfaa", sum := "ee98168e1f06349080c9abfa966440be637998f14b7309122ae02490fcbc90ec", func := "loop.example/g01376/laws.FnExactFewestWrong", spec := "fnExactFewestWrong", unfollowed := true, recurses := true, plainKeys := false, apart := false }
def FnExactFewestWrongSaid : Prop := fnExactFewestWrongRow.holds Try.pinned (OpenSpec.ofChange fnExactFewestWrongSpec)

/-- ITS FALSE NEIGHBOUR: 'it returns false'. Refute it at one input. -/
def fnExactFewestWrongWrong : ChangeSpec := { name := "fnExactFewestWrong", fn := fun _ => fun
  | [d1, d2, d3] => { results := [.lit (.bool false)], args := [d1, d2, d3] }
  | _ => none }
def FnExactFewestWrongWrongFalsely : Prop := fnExactFewestWrongRow.holds Try.pinned (OpenSpec.ofChange fnExactFewestWrongWrong)

/-- 'laws.FnExactSurelyWhole': WHATEVER THE INPUT: true; the input reads as it did. -/
def fnExactSurelyWholeSpec : ChangeSpec := { name := "fnExactSurelyWhole", fn := fun _ => fun
  | [d1, d2, d3] => { results := [.lit (.bool true)], args := [d1, d2, d3] }
  | _ => none }
def fnExactSurelyWholeRow : OpenClaim := { program := "ytejncabmppobfaa", sum := "ee98168e1f06349080c9abfa966440be637998f14b7309122ae02490fcbc90ec", func := "loop.example/g01376/laws.FnExactSurelyWhole", spec := "fnExactSurelyWhole", unfollowed := true, recurses := true, plainKeys := false, apart := false }
def FnExactSurelyWholeSaid : Prop := fnExactSurelyWholeRow.holds Try.pinned (OpenSpec.ofChange fnExactSurelyWholeSpec)

/-- ITS FALSE NEIGHBOUR: 'it returns false'. Refute it at one input. -/
def fnExactSurelyWholeWrong : ChangeSpec := { name := "fnExactSurelyWhole", fn := fun _ => fun
  | [d1, d2, d3] => { results := [.lit (.bool false)], args := [d1, d2, d3] }
  | _ => none }
def FnExactSurelyWholeWrongFalsely : Prop := fnExactSurelyWholeRow.holds Try.pinned (OpenSpec.ofChange fnExactSurelyWholeWrong)

/-- 'laws.FnExactSurelyWrong': WHATEVER THE INPUT: true; the input reads as it did. -/
def fnExactSurelyWrongSpec : ChangeSpec := { name := "fnExactSurelyWrong", fn := fun _ => fun
  | [d1, d2, d3] => { results := [.lit (.bool true)], args := [d1, d2, d3] }
  | _ => none }
def fnExactSurelyWrongRow : OpenClaim := { program := "ytejncabmppobfaa", sum := "ee98168e1f06349080c9abfa966440be637998f14b7309122ae02490fcbc90ec", func := "loop.example/g01376/laws.FnExactSurelyWrong", spec := "fnExactSurelyWrong", unfollowed := true, recurses := true, plainKeys := false, apart := false }
def FnExactSurelyWrongSaid : Prop := fnExactSurelyWrongRow.holds Try.pinned (OpenSpec.ofChange fnExactSurelyWrongSpec)

/-- ITS FALSE NEIGHBOUR: 'it returns false'. Refute it at one input. -/
def fnExactSurelyWrongWrong : ChangeSpec := { name := "fnExactSurelyWrong", fn := fun _ => fun
  | [d1, d2, d3] => { results := [.lit (.bool false)], args := [d1, d2, d3] }
  | _ => none }
def FnExactSurelyWrongWrongFalsely : Prop := fnExactSurelyWrongRow.holds Try.pinned (OpenSpec.ofChange fnExactSurelyWrongWrong)

/- THE SECOND FORM. 'bulk': how many values and letters a reading holds, each counted each time it is reached (what is shared counts as often as it is met; a slice's spare places count too). A statement '..UptoSaid' is the law's where the arguments, and the package variables that the reading takes, are together of bulk at most 1048576: NARROWER than '..Said'. Prove '..Said' where nothing that the law and all that it calls make is longer than what came in: it says more and counts as full. Else prove '..UptoSaid'. A law counts once. -/
mutual
def uptoBulk {H : Type} : DataW H → Nat
  | .lit (.string bytes) => bytes.length + 1
  | .lit _ => 1
  | .nil => 1
  | .ptr d => uptoBulk d + 1
  | .slice elems spare => uptoBulkAll elems + uptoBulkAll spare + 1
  | .agg parts => uptoBulkAll parts + 1
  | .iface _ d => uptoBulk d + 1
  | .map entries => uptoBulkEntries entries + 1
  | .held _ => 1
def uptoBulkAll {H : Type} : List (DataW H) → Nat
  | [] => 0
  | d :: r => uptoBulk d + uptoBulkAll r
def uptoBulkEntries {H : Type} : List (Lit × DataW H) → Nat
  | [] => 0
  | x :: r => uptoBulkEntry x + uptoBulkEntries r
def uptoBulkEntry {H : Type} : Lit × DataW H → Nat
  | (.string bytes, d) => bytes.length + uptoBulk d + 1
  | (_, d) => uptoBulk d + 1
 end
def uptoSmall : (H : Type) → List (DataW H) → Bool := fun _ ds => decide (uptoBulkAll ds ≤ 1048576)
def OpenSpec.upto (s : _root_.Go.ChangeSpec) : _root_.Go.OpenSpec := { _root_.Go.OpenSpec.ofChange s with cond := some uptoSmall }

/-- 'laws.FnExactNeedlessRepairs', WHERE WHAT IT READS IS OF BULK AT MOST 1048576: true; the input reads as it did. -/
def fnExactNeedlessRepairsUptoRow : OpenClaim := { program := "ytejncabmppobfaa", sum := "ee98168e1f06349080c9abfa966440be637998f14b7309122ae02490fcbc90ec", func := "loop.example/g01376/laws.FnExactNeedlessRepairs", spec := "fnExactNeedlessRepairs", unfollowed := true, recurses := true, plainKeys := false, apart := false, narrowed := true }
def FnExactNeedlessRepairsUptoSaid : Prop := fnExactNeedlessRepairsUptoRow.holds Try.pinned (OpenSpec.upto fnExactNeedlessRepairsSpec)

/-- 'laws.FnExactCountRoofs', WHERE WHAT IT READS IS OF BULK AT MOST 1048576: true; the input reads as it did. -/
def fnExactCountRoofsUptoRow : OpenClaim := { program := "ytejncabmppobfaa", sum := "ee98168e1f06349080c9abfa966440be637998f14b7309122ae02490fcbc90ec", func := "loop.example/g01376/laws.FnExactCountRoofs", spec := "fnExactCountRoofs", unfollowed := true, recurses := true, plainKeys := false, apart := false, narrowed := true }
def FnExactCountRoofsUptoSaid : Prop := fnExactCountRoofsUptoRow.holds Try.pinned (OpenSpec.upto fnExactCountRoofsSpec)

/-- 'laws.FnExactMayBe', WHERE WHAT IT READS IS OF BULK AT MOST 1048576: true; the input reads as it did. -/
def fnExactMayBeUptoRow : OpenClaim := { program := "ytejncabmppobfaa", sum := "ee98168e1f06349080c9abfa966440be637998f14b7309122ae02490fcbc90ec", func := "loop.example/g01376/laws.FnExactMayBe", spec := "fnExactMayBe", unfollowed := true, recurses := true, plainKeys := false, apart := false, narrowed := true }
def FnExactMayBeUptoSaid : Prop := fnExactMayBeUptoRow.holds Try.pinned (OpenSpec.upto fnExactMayBeSpec)

/-- 'laws.FnExactFewestWrong', WHERE WHAT IT READS IS OF BULK AT MOST 1048576: true; the input reads as it did. -/
def fnExactFewestWrongUptoRow : OpenClaim := { program := "ytejncabmppobfaa", sum := "ee98168e1f06349080c9abfa966440be637998f14b7309122ae02490fcbc90ec", func := "loop.example/g01376/laws.FnExactFewestWrong", spec := "fnExactFewestWrong", unfollowed := true, recurses := true, plainKeys := false, apart := false, narrowed := true }
def FnExactFewestWrongUptoSaid : Prop := fnExactFewestWrongUptoRow.holds Try.pinned (OpenSpec.upto fnExactFewestWrongSpec)

/-- 'laws.FnExactSurelyWhole', WHERE WHAT IT READS IS OF BULK AT MOST 1048576: true; the input reads as it did. -/
def fnExactSurelyWholeUptoRow : OpenClaim := { program := "ytejncabmppobfaa", sum := "ee98168e1f06349080c9abfa966440be637998f14b7309122ae02490fcbc90ec", func := "loop.example/g01376/laws.FnExactSurelyWhole", spec := "fnExactSurelyWhole", unfollowed := true, recurses := true, plainKeys := false, apart := false, narrowed := true }
def FnExactSurelyWholeUptoSaid : Prop := fnExactSurelyWholeUptoRow.holds Try.pinned (OpenSpec.upto fnExactSurelyWholeSpec)

/-- 'laws.FnExactSurelyWrong', WHERE WHAT IT READS IS OF BULK AT MOST 1048576: true; the input reads as it did. -/
def fnExactSurelyWrongUptoRow : OpenClaim := { program := "ytejncabmppobfaa", sum := "ee98168e1f06349080c9abfa966440be637998f14b7309122ae02490fcbc90ec", func := "loop.example/g01376/laws.FnExactSurelyWrong", spec := "fnExactSurelyWrong", unfollowed := true, recurses := true, plainKeys := false, apart := false, narrowed := true }
def FnExactSurelyWrongUptoSaid : Prop := fnExactSurelyWrongUptoRow.holds Try.pinned (OpenSpec.upto fnExactSurelyWrongSpec)

end Rows
end Go.Proofs.Ytejncabmppobfaa
