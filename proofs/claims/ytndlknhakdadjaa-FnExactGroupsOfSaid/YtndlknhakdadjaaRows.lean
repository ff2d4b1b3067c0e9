/-
  No cell of these rows narrows 'for every input' (looked for: loops, veiled, ifaces, maps, wideKeys, modest, calm, conditions, laid).
  DERIVED. THE GIVEN ROWS OF THIS SEAT. 8 by the template 'for every input the law returns true; each argument reads behind the call as it read before'; 0 by the template 'total and deterministic' (their statements: YtndlknhakdadjaaTotals.lean).
  GIVEN WITH THE SEED: the statements are not yours to turn. If you find one false, say at which input.
  Laid BY PROGRAM, IN A SANDBOX (cutbox-rows.mjs): the forced cells as the released guide's own fill.sh prints them over the translation 4172fbce553e1722… (all of the seat's roots in one cut). By AI agents, Wed Nov 11 2026. No macro, syntax, notation, axiom, sorry.
-/
import Derived.Test.YtndlknhakdadjaaChecked
import GoSem.Claim
import GoSem.ClaimJoined
import GoSem.ClaimMapViews
import Derived.JoinedTies
import Derived.KernelRfl
namespace Go.Proofs.Ytndlknhakdadjaa
/- THE CELL 'sum', in the pinned program and in every row, IS THE sha256 OF THE DUMP (.gsa) THAT YtndlknhakdadjaaProg.lean LOADS. Nothing in Lean hashes anything: it is a label: what it is worth is what the hold of that sum in a sandbox is worth. -/
noncomputable def Try.pinned : Pinned := { name := "ytndlknhakdadjaa", sum := "4172fbce553e1722fa8e6281aa55a2b19f4ef9cecfbe89271c8b306f05b3f62f", checked := Try.checked }
namespace Rows
def none {H : Type} : Left H := { results := [], args := [] }

/-- 'laws.FnExactNearestPattern': WHATEVER THE INPUT: true; the input reads as it did. -/
def fnExactNearestPatternSpec : ChangeSpec := { name := "fnExactNearestPattern", fn := fun _ => fun
  | [d1, d2, d3] => { results := [.lit (.bool true)], args := [d1, d2, d3] }
  | _ => none }
def fnExactNearestPatternRow : OpenClaim := { program := "ytndlknhakdadjaa", sum := "4172fbce553e1722fa8e6281aa55a2b19f4ef9cecfbe89271c8b306f05b3f62f", func := "loop.example/g01376/laws.FnExactNearestPattern", spec := "fnExactNearestPattern", unfollowed := true, recurses := true, plainKeys := false, apart := false }
def FnExactNearestPatternSaid : Prop := fnExactNearestPatternRow.holds Try.pinned (OpenSpec.ofChange fnExactNearestPatternSpec)

/-- ITS FALSE NEIGHBOUR: 'it returns false'. Refute it at one input. -/
def fnExactNearestPatternWrong : ChangeSpec := { name := "fnExactNearestPattern", fn := fun _ => fun
  | [d1, d2, d3] => { results := [.lit (.bool false)], args := [d1, d2, d3] }
  | _ => none }
def FnExactNearestPatternWrongFalsely : Prop := fnExactNearestPatternRow.holds Try.pinned (OpenSpec.ofChange fnExactNearestPatternWrong)

/-- 'laws.FnExactReplacedAt': WHATEVER THE INPUT: true; the input reads as it did. -/
def fnExactReplacedAtSpec : ChangeSpec := { name := "fnExactReplacedAt", fn := fun _ => fun
  | [d1, d2, d3, d4] => { results := [.lit (.bool true)], args := [d1, d2, d3, d4] }
  | _ => none }
def fnExactReplacedAtRow : OpenClaim := { program := "ytndlknhakdadjaa", sum := "4172fbce553e1722fa8e6281aa55a2b19f4ef9cecfbe89271c8b306f05b3f62f", func := "loop.example/g01376/laws.FnExactReplacedAt", spec := "fnExactReplacedAt", unfollowed := true, recurses := true, plainKeys := false, apart := false }
def FnExactReplacedAtSaid : Prop := fnExactReplacedAtRow.holds Try.pinned (OpenSpec.ofChange fnExactReplacedAtSpec)

/-- ITS FALSE NEIGHBOUR: 'it returns false'. Refute it at one input. -/
def fnExactReplacedAtWrong : ChangeSpec := { name := "fnExactReplacedAt", fn := fun _ => fun
  | [d1, d2, d3, d4] => { results := [.lit (.bool false)], args := [d1, d2, d3, d4] }
  | _ => none }
def FnExactReplacedAtWrongFalsely : Prop := fnExactReplacedAtRow.holds Try.pinned (OpenSpec.ofChange fnExactReplacedAtWrong)

/-- 'laws.FnExactMinutesAll': WHATEVER THE INPUT: true; the input reads as it did. -/
def fnExactMinutesAllSpec : ChangeSpec := { name := "fnExactMinutesAll", fn := fun _ => fun
  | [d1, d2, d3, d4] => { results := [.lit (.bool true)], args := [d1, d2, d3, d4] }
  | _ => none }
def fnExactMinutesAllRow : OpenClaim := { program := "ytndlknhakdadjaa", sum := "4172fbce553e1722fa8e6281aa55a2b19f4ef9cecfbe89271c8b306f05b3f62f", func := "loop.example/g01376/laws.FnExactMinutesAll", spec := "fnExactMinutesAll", unfollowed := true, recurses := true, plainKeys := false, apart := false }
def FnExactMinutesAllSaid : Prop := fnExactMinutesAllRow.holds Try.pinned (OpenSpec.ofChange fnExactMinutesAllSpec)

/-- ITS FALSE NEIGHBOUR: 'it returns false'. Refute it at one input. -/
def fnExactMinutesAllWrong : ChangeSpec := { name := "fnExactMinutesAll", fn := fun _ => fun
  | [d1, d2, d3, d4] => { results := [.lit (.bool false)], args := [d1, d2, d3, d4] }
  | _ => none }
def FnExactMinutesAllWrongFalsely : Prop := fnExactMinutesAllRow.holds Try.pinned (OpenSpec.ofChange fnExactMinutesAllWrong)

/-- 'laws.FnExactBestCell': WHATEVER THE INPUT: true; the input reads as it did. -/
def fnExactBestCellSpec : ChangeSpec := { name := "fnExactBestCell", fn := fun _ => fun
  | [d1, d2] => { results := [.lit (.bool true)], args := [d1, d2] }
  | _ => none }
def fnExactBestCellRow : OpenClaim := { program := "ytndlknhakdadjaa", sum := "4172fbce553e1722fa8e6281aa55a2b19f4ef9cecfbe89271c8b306f05b3f62f", func := "loop.example/g01376/laws.FnExactBestCell", spec := "fnExactBestCell", unfollowed := true, recurses := true, plainKeys := false, apart := false }
def FnExactBestCellSaid : Prop := fnExactBestCellRow.holds Try.pinned (OpenSpec.ofChange fnExactBestCellSpec)

/-- ITS FALSE NEIGHBOUR: 'it returns false'. Refute it at one input. -/
def fnExactBestCellWrong : ChangeSpec := { name := "fnExactBestCell", fn := fun _ => fun
  | [d1, d2] => { results := [.lit (.bool false)], args := [d1, d2] }
  | _ => none }
def FnExactBestCellWrongFalsely : Prop := fnExactBestCellRow.holds Try.pinned (OpenSpec.ofChange fnExactBestCellWrong)

/-- 'laws.FnExactMinuteOnce': WHATEVER THE INPUT: true; the input reads as it did. -/
def fnExactMinuteOnceSpec : ChangeSpec := { name := "fnExactMinuteOnce", fn := fun _ => fun
  | [d1, d2, d3] => { results := [.lit (.bool true)], args := [d1, d2, d3] }
  | _ => none }
def fnExactMinuteOnceRow : OpenClaim := { program := "ytndlknhakdadjaa", sum := "4172fbce553e1722fa8e6281aa55a2b19f4ef9cecfbe89271c8b306f05b3f62f", func := "loop.example/g01376/laws.FnExactMinuteOnce", spec := "fnExactMinuteOnce", unfollowed := true, recurses := true, plainKeys := false, apart := false }
def FnExactMinuteOnceSaid : Prop := fnExactMinuteOnceRow.holds Try.pinned (OpenSpec.ofChange fnExactMinuteOnceSpec)

/-- ITS FALSE NEIGHBOUR: 'it returns false'. Refute it at one input. -/
def fnExactMinuteOnceWrong : ChangeSpec := { name := "fnExactMinuteOnce", fn := fun _ => fun
  | [d1, d2, d3] => { results := [.lit (.bool false)], args := [d1, d2, d3] }
  | _ => none }
def FnExactMinuteOnceWrongFalsely : Prop := fnExactMinuteOnceRow.holds Try.pinned (OpenSpec.ofChange fnExactMinuteOnceWrong)

/-- 'laws.FnExactMendUntil': WHATEVER THE INPUT: true; the input reads as it did. -/
def fnExactMendUntilSpec : ChangeSpec := { name := "fnExactMendUntil", fn := fun _ => fun
  | [d1, d2, d3] => { results := [.lit (.bool true)], args := [d1, d2, d3] }
  | _ => none }
def fnExactMendUntilRow : OpenClaim := { program := "ytndlknhakdadjaa", sum := "4172fbce553e1722fa8e6281aa55a2b19f4ef9cecfbe89271c8b306f05b3f62f", func := "loop.example/g01376/laws.FnExactMendUntil", spec := "fnExactMendUntil", unfollowed := true, recurses := true, plainKeys := false, apart := false }
def FnExactMendUntilSaid : Prop := fnExactMendUntilRow.holds Try.pinned (OpenSpec.ofChange fnExactMendUntilSpec)

/-- ITS FALSE NEIGHBOUR: 'it returns false'. Refute it at one input. -/
def fnExactMendUntilWrong : ChangeSpec := { name := "fnExactMendUntil", fn := fun _ => fun
  | [d1, d2, d3] => { results := [.lit (.bool false)], args := [d1, d2, d3] }
  | _ => none }
def FnExactMendUntilWrongFalsely : Prop := fnExactMendUntilRow.holds Try.pinned (OpenSpec.ofChange fnExactMendUntilWrong)

/-- 'laws.FnExactGroupsOf': WHATEVER THE INPUT: true; the input reads as it did. -/
def fnExactGroupsOfSpec : ChangeSpec := { name := "fnExactGroupsOf", fn := fun _ => fun
  | [d1, d2] => { results := [.lit (.bool true)], args := [d1, d2] }
  | _ => none }
def fnExactGroupsOfRow : OpenClaim := { program := "ytndlknhakdadjaa", sum := "4172fbce553e1722fa8e6281aa55a2b19f4ef9cecfbe89271c8b306f05b3f62f", func := "loop.example/g01376/laws.FnExactGroupsOf", spec := "fnExactGroupsOf", unfollowed := true, recurses := true, plainKeys := false, apart := false }
def FnExactGroupsOfSaid : Prop := fnExactGroupsOfRow.holds Try.pinned (OpenSpec.ofChange fnExactGroupsOfSpec)

/-- ITS FALSE NEIGHBOUR: 'it returns false'. Refute it at one input. -/
def fnExactGroupsOfWrong : ChangeSpec := { name := "fnExactGroupsOf", fn := fun _ => fun
  | [d1, d2] => { results := [.lit (.bool false)], args := [d1, d2] }
  | _ => none }
def FnExactGroupsOfWrongFalsely : Prop := fnExactGroupsOfRow.holds Try.pinned (OpenSpec.ofChange fnExactGroupsOfWrong)

/-- 'laws.FnExactBestClean': WHATEVER THE INPUT: true; the input reads as it did. -/
def fnExactBestCleanSpec : ChangeSpec := { name := "fnExactBestClean", fn := fun _ => fun
  | [d1, d2, d3] => { results := [.lit (.bool true)], args := [d1, d2, d3] }
  | _ => none }
def fnExactBestCleanRow : OpenClaim := { program := "ytndlknhakdadjaa", sum := "4172fbce553e1722fa8e6281aa55a2b19f4ef9cecfbe89271c8b306f05b3f62f", func := "loop.example/g01376/laws.FnExactBestClean", spec := "fnExactBestClean", unfollowed := true, recurses := true, plainKeys := false, apart := false }
def FnExactBestCleanSaid : Prop := fnExactBestCleanRow.holds Try.pinned (OpenSpec.ofChange fnExactBestCleanSpec)

/-- ITS FALSE NEIGHBOUR: 'it returns false'. Refute it at one input. -/
def fnExactBestCleanWrong : ChangeSpec := { name := "fnExactBestClean", fn := fun _ => fun
  | [d1, d2, d3] => { results := [.lit (.bool false)], args := [d1, d2, d3] }
  | _ => none }
def FnExactBestCleanWrongFalsely : Prop := fnExactBestCleanRow.holds Try.pinned (OpenSpec.ofChange fnExactBestCleanWrong)

/- THE SECOND FORM. 'bulk': how many values and letters a reading holds, each counted each time it is reached (what is shared counts as often as it is met; a slice's spare places count too). A statement '..UptoSaid' is the law's where the arguments, and the package variables that the reading takes, are together of bulk at most 1048576: NARROWER than '..Said'. Prove '..Said' where nothing that the law and all that it calls make is longer than what came in: it says more and counts as full. Else prove '..UptoSaid'. A law counts once. -/
mutual
def uptoBulk {H : Type} : DataW H → Nat
  | .lit (.string bytes) => bytes.length + 1
  | .lit _ => 1
  | .nil => 1
  | .ptr d => uptoBulk d + 1
  | .slice elems spare => uptoBulkAll elems + uptoBulkAll spare + 1
  | .agg parts => uptoBulkAll parts + 1
  | .iface _ d => uptoBulk d + 1
  | .map entries => uptoBulkEntries entries + 1
  | .held _ => 1
def uptoBulkAll {H : Type} : List (DataW H) → Nat
  | [] => 0
  | d :: r => uptoBulk d + uptoBulkAll r
def uptoBulkEntries {H : Type} : List (Lit × DataW H) → Nat
  | [] => 0
  | x :: r => uptoBulkEntry x + uptoBulkEntries r
def uptoBulkEntry {H : Type} : Lit × DataW H → Nat
  | (.string bytes, d) => bytes.length + uptoBulk d + 1
  | (_, d) => uptoBulk d + 1
 end
def uptoSmall : (H : Type) → List (DataW H) → Bool := fun _ ds => decide (uptoBulkAll ds ≤ 1048576)
def OpenSpec.upto (s : _root_.Go.ChangeSpec) : _root_.Go.OpenSpec := { _root_.Go.OpenSpec.ofChange s with cond := some uptoSmall }

/-- 'laws.FnExactNearestPattern', WHERE WHAT IT READS IS OF BULK AT MOST 1048576: true; the input reads as it did. -/
def fnExactNearestPatternUptoRow : OpenClaim := { program := "ytndlknhakdadjaa", sum := "4172fbce553e1722fa8e6281aa55a2b19f4ef9cecfbe89271c8b306f05b3f62f", func := "loop.example/g01376/laws.FnExactNearestPattern", spec := "fnExactNearestPattern", unfollowed := true, recurses := true, plainKeys := false, apart := false, narrowed := true }
def FnExactNearestPatternUptoSaid : Prop := fnExactNearestPatternUptoRow.holds Try.pinned (OpenSpec.upto fnExactNearestPatternSpec)

/-- 'laws.FnExactReplacedAt', WHERE WHAT IT READS IS OF BULK AT MOST 1048576: true; the input reads as it did. -/
def fnExactReplacedAtUptoRow : OpenClaim := { program := "ytndlknhakdadjaa", sum := "4172fbce553e1722fa8e6281aa55a2b19f4ef9cecfbe89271c8b306f05b3f62f", func := "loop.example/g01376/laws.FnExactReplacedAt", spec := "fnExactReplacedAt", unfollowed := true, recurses := true, plainKeys := false, apart := false, narrowed := true }
def FnExactReplacedAtUptoSaid : Prop := fnExactReplacedAtUptoRow.holds Try.pinned (OpenSpec.upto fnExactReplacedAtSpec)

/-- 'laws.FnExactMinutesAll', WHERE WHAT IT READS IS OF BULK AT MOST 1048576: true; the input reads as it did. -/
def fnExactMinutesAllUptoRow : OpenClaim := { program := "ytndlknhakdadjaa", sum := "4172fbce553e1722fa8e6281aa55a2b19f4ef9cecfbe89271c8b306f05b3f62f", func := "loop.example/g01376/laws.FnExactMinutesAll", spec := "fnExactMinutesAll", unfollowed := true, recurses := true, plainKeys := false, apart := false, narrowed := true }
def FnExactMinutesAllUptoSaid : Prop := fnExactMinutesAllUptoRow.holds Try.pinned (OpenSpec.upto fnExactMinutesAllSpec)

/-- 'laws.FnExactBestCell', WHERE WHAT IT READS IS OF BULK AT MOST 1048576: true; the input reads as it did. -/
def fnExactBestCellUptoRow : OpenClaim := { program := "ytndlknhakdadjaa", sum := "4172fbce553e1722fa8e6281aa55a2b19f4ef9cecfbe89271c8b306f05b3f62f", func := "loop.example/g01376/laws.FnExactBestCell", spec := "fnExactBestCell", unfollowed := true, recurses := true, plainKeys := false, apart := false, narrowed := true }
def FnExactBestCellUptoSaid : Prop := fnExactBestCellUptoRow.holds Try.pinned (OpenSpec.upto fnExactBestCellSpec)

/-- 'laws.FnExactMinuteOnce', WHERE WHAT IT READS IS OF BULK AT MOST 1048576: true; the input reads as it did. -/
def fnExactMinuteOnceUptoRow : OpenClaim := { program := "ytndlknhakdadjaa", sum := "4172fbce553e1722fa8e6281aa55a2b19f4ef9cecfbe89271c8b306f05b3f62f", func := "loop.example/g01376/laws.FnExactMinuteOnce", spec := "fnExactMinuteOnce", unfollowed := true, recurses := true, plainKeys := false, apart := false, narrowed := true }
def FnExactMinuteOnceUptoSaid : Prop := fnExactMinuteOnceUptoRow.holds Try.pinned (OpenSpec.upto fnExactMinuteOnceSpec)

/-- 'laws.FnExactMendUntil', WHERE WHAT IT READS IS OF BULK AT MOST 1048576: true; the input reads as it did. -/
def fnExactMendUntilUptoRow : OpenClaim := { program := "ytndlknhakdadjaa", sum := "4172fbce553e1722fa8e6281aa55a2b19f4ef9cecfbe89271c8b306f05b3f62f", func := "loop.example/g01376/laws.FnExactMendUntil", spec := "fnExactMendUntil", unfollowed := true, recurses := true, plainKeys := false, apart := false, narrowed := true }
def FnExactMendUntilUptoSaid : Prop := fnExactMendUntilUptoRow.holds Try.pinned (OpenSpec.upto fnExactMendUntilSpec)

/-- 'laws.FnExactGroupsOf', WHERE WHAT IT READS IS OF BULK AT MOST 1048576: true; the input reads as it did. -/
def fnExactGroupsOfUptoRow : OpenClaim := { program := "ytndlknhakdadjaa", sum := "4172fbce553e1722fa8e6281aa55a2b19f4ef9cecfbe89271c8b306f05b3f62f", func := "loop.example/g01376/laws.FnExactGroupsOf", spec := "fnExactGroupsOf", unfollowed := true, recurses := true, plainKeys := false, apart := false, narrowed := true }
def FnExactGroupsOfUptoSaid : Prop := fnExactGroupsOfUptoRow.holds Try.pinned (OpenSpec.upto fnExactGroupsOfSpec)

/-- 'laws.FnExactBestClean', WHERE WHAT IT READS IS OF BULK AT MOST 1048576: true; the input reads as it did. -/
def fnExactBestCleanUptoRow : OpenClaim := { program := "ytndlknhakdadjaa", sum := "4172fbce553e1722fa8e6281aa55a2b19f4ef9cecfbe89271c8b306f05b3f62f", func := "loop.example/g01376/laws.FnExactBestClean", spec := "fnExactBestClean", unfollowed := true, recurses := true, plainKeys := false, apart := false, narrowed := true }
def FnExactBestCleanUptoSaid : Prop := fnExactBestCleanUptoRow.holds Try.pinned (OpenSpec.upto fnExactBestCleanSpec)

end Rows
end Go.Proofs.Ytndlknhakdadjaa
