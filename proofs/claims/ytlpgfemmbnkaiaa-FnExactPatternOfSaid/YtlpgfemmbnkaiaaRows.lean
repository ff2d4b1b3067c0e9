/-
  No cell of these rows narrows 'for every input' (looked for: loops, veiled, ifaces, maps, wideKeys, modest, calm, conditions, laid).
  DERIVED. THE GIVEN ROWS OF THIS SEAT. 16 by the template 'for every input the law returns true; each argument reads behind the call as it read before'; 0 by the template 'total and deterministic' (their statements: YtlpgfemmbnkaiaaTotals.lean).
  GIVEN WITH THE SEED: the statements are not yours to turn. If you find one false, say at which input.
  Laid BY PROGRAM, IN A SANDBOX (cutbox-rows.mjs): the forced cells as the released guide's own fill.sh prints them over the translation db52df99f1372963… (all of the seat's roots in one cut). By AI agents, Wed Nov 11 2026. No macro, syntax, notation, axiom, sorry.
-/
import Derived.Test.YtlpgfemmbnkaiaaChecked
import GoSem.Claim
import GoSem.ClaimJoined
import GoSem.ClaimMapViews
import Derived.JoinedTies
import Derived.KernelRfl
namespace Go.Proofs.Ytlpgfemmbnkaiaa
/- THE CELL 'sum', in the pinned program and in every row, IS THE sha256 OF THE DUMP (.gsa) THAT YtlpgfemmbnkaiaaProg.lean LOADS. Nothing in Lean hashes anything: it is a label: what it is worth is what the hold of that sum in a sandbox is worth. -/
noncomputable def Try.pinned : Pinned := { name := "ytlpgfemmbnkaiaa", sum := "db52df99f1372963577a51c3c29853915c0053352d9548d0999e9663cfc6230e", checked := Try.checked }
namespace Rows
def none {H : Type} : Left H := { results := [], args := [] }

/-- 'laws.FnExactValidWord': WHATEVER THE INPUT: true; the input reads as it did. -/
def fnExactValidWordSpec : ChangeSpec := { name := "fnExactValidWord", fn := fun _ => fun
  | [d] => { results := [.lit (.bool true)], args := [d] }
  | _ => none }
def fnExactValidWordRow : OpenClaim := { program := "ytlpgfemmbnkaiaa", sum := "db52df99f1372963577a51c3c29853915c0053352d9548d0999e9663cfc6230e", func := "loop.example/g01376/laws.FnExactValidWord", spec := "fnExactValidWord", unfollowed := true, recurses := true, apart := false }
def FnExactValidWordSaid : Prop := fnExactValidWordRow.holds Try.pinned (OpenSpec.ofChange fnExactValidWordSpec)

/-- ITS FALSE NEIGHBOUR: 'it returns false'. Refute it at one input. -/
def fnExactValidWordWrong : ChangeSpec := { name := "fnExactValidWord", fn := fun _ => fun
  | [d] => { results := [.lit (.bool false)], args := [d] }
  | _ => none }
def FnExactValidWordWrongFalsely : Prop := fnExactValidWordRow.holds Try.pinned (OpenSpec.ofChange fnExactValidWordWrong)

/-- 'laws.FnExactValidColours': WHATEVER THE INPUT: true; the input reads as it did. -/
def fnExactValidColoursSpec : ChangeSpec := { name := "fnExactValidColours", fn := fun _ => fun
  | [d1, d2] => { results := [.lit (.bool true)], args := [d1, d2] }
  | _ => none }
def fnExactValidColoursRow : OpenClaim := { program := "ytlpgfemmbnkaiaa", sum := "db52df99f1372963577a51c3c29853915c0053352d9548d0999e9663cfc6230e", func := "loop.example/g01376/laws.FnExactValidColours", spec := "fnExactValidColours", apart := false }
def FnExactValidColoursSaid : Prop := fnExactValidColoursRow.holds Try.pinned (OpenSpec.ofChange fnExactValidColoursSpec)

/-- ITS FALSE NEIGHBOUR: 'it returns false'. Refute it at one input. -/
def fnExactValidColoursWrong : ChangeSpec := { name := "fnExactValidColours", fn := fun _ => fun
  | [d1, d2] => { results := [.lit (.bool false)], args := [d1, d2] }
  | _ => none }
def FnExactValidColoursWrongFalsely : Prop := fnExactValidColoursRow.holds Try.pinned (OpenSpec.ofChange fnExactValidColoursWrong)

/-- 'laws.FnExactValidAges': WHATEVER THE INPUT: true; the input reads as it did. -/
def fnExactValidAgesSpec : ChangeSpec := { name := "fnExactValidAges", fn := fun _ => fun
  | [d1, d2] => { results := [.lit (.bool true)], args := [d1, d2] }
  | _ => none }
def fnExactValidAgesRow : OpenClaim := { program := "ytlpgfemmbnkaiaa", sum := "db52df99f1372963577a51c3c29853915c0053352d9548d0999e9663cfc6230e", func := "loop.example/g01376/laws.FnExactValidAges", spec := "fnExactValidAges", apart := false }
def FnExactValidAgesSaid : Prop := fnExactValidAgesRow.holds Try.pinned (OpenSpec.ofChange fnExactValidAgesSpec)

/-- ITS FALSE NEIGHBOUR: 'it returns false'. Refute it at one input. -/
def fnExactValidAgesWrong : ChangeSpec := { name := "fnExactValidAges", fn := fun _ => fun
  | [d1, d2] => { results := [.lit (.bool false)], args := [d1, d2] }
  | _ => none }
def FnExactValidAgesWrongFalsely : Prop := fnExactValidAgesRow.holds Try.pinned (OpenSpec.ofChange fnExactValidAgesWrong)

/-- 'laws.FnExactMirrorColours': WHATEVER THE INPUT: true; the input reads as it did. -/
def fnExactMirrorColoursSpec : ChangeSpec := { name := "fnExactMirrorColours", fn := fun _ => fun
  | [d1, d2] => { results := [.lit (.bool true)], args := [d1, d2] }
  | _ => none }
def fnExactMirrorColoursRow : OpenClaim := { program := "ytlpgfemmbnkaiaa", sum := "db52df99f1372963577a51c3c29853915c0053352d9548d0999e9663cfc6230e", func := "loop.example/g01376/laws.FnExactMirrorColours", spec := "fnExactMirrorColours", apart := false }
def FnExactMirrorColoursSaid : Prop := fnExactMirrorColoursRow.holds Try.pinned (OpenSpec.ofChange fnExactMirrorColoursSpec)

/-- ITS FALSE NEIGHBOUR: 'it returns false'. Refute it at one input. -/
def fnExactMirrorColoursWrong : ChangeSpec := { name := "fnExactMirrorColours", fn := fun _ => fun
  | [d1, d2] => { results := [.lit (.bool false)], args := [d1, d2] }
  | _ => none }
def FnExactMirrorColoursWrongFalsely : Prop := fnExactMirrorColoursRow.holds Try.pinned (OpenSpec.ofChange fnExactMirrorColoursWrong)

/-- 'laws.FnExactColoursText': WHATEVER THE INPUT: true; the input reads as it did. -/
def fnExactColoursTextSpec : ChangeSpec := { name := "fnExactColoursText", fn := fun _ => fun
  | [d1, d2] => { results := [.lit (.bool true)], args := [d1, d2] }
  | _ => none }
def fnExactColoursTextRow : OpenClaim := { program := "ytlpgfemmbnkaiaa", sum := "db52df99f1372963577a51c3c29853915c0053352d9548d0999e9663cfc6230e", func := "loop.example/g01376/laws.FnExactColoursText", spec := "fnExactColoursText", apart := false }
def FnExactColoursTextSaid : Prop := fnExactColoursTextRow.holds Try.pinned (OpenSpec.ofChange fnExactColoursTextSpec)

/-- ITS FALSE NEIGHBOUR: 'it returns false'. Refute it at one input. -/
def fnExactColoursTextWrong : ChangeSpec := { name := "fnExactColoursText", fn := fun _ => fun
  | [d1, d2] => { results := [.lit (.bool false)], args := [d1, d2] }
  | _ => none }
def FnExactColoursTextWrongFalsely : Prop := fnExactColoursTextRow.holds Try.pinned (OpenSpec.ofChange fnExactColoursTextWrong)

/-- 'laws.FnExactCountColour': WHATEVER THE INPUT: true; the input reads as it did. -/
def fnExactCountColourSpec : ChangeSpec := { name := "fnExactCountColour", fn := fun _ => fun
  | [d1, d2] => { results := [.lit (.bool true)], args := [d1, d2] }
  | _ => none }
def fnExactCountColourRow : OpenClaim := { program := "ytlpgfemmbnkaiaa", sum := "db52df99f1372963577a51c3c29853915c0053352d9548d0999e9663cfc6230e", func := "loop.example/g01376/laws.FnExactCountColour", spec := "fnExactCountColour", unfollowed := true, recurses := true, apart := false }
def FnExactCountColourSaid : Prop := fnExactCountColourRow.holds Try.pinned (OpenSpec.ofChange fnExactCountColourSpec)

/-- ITS FALSE NEIGHBOUR: 'it returns false'. Refute it at one input. -/
def fnExactCountColourWrong : ChangeSpec := { name := "fnExactCountColour", fn := fun _ => fun
  | [d1, d2] => { results := [.lit (.bool false)], args := [d1, d2] }
  | _ => none }
def FnExactCountColourWrongFalsely : Prop := fnExactCountColourRow.holds Try.pinned (OpenSpec.ofChange fnExactCountColourWrong)

/-- 'laws.FnExactMakePattern': WHATEVER THE INPUT: true; the input reads as it did. -/
def fnExactMakePatternSpec : ChangeSpec := { name := "fnExactMakePattern", fn := fun _ => fun
  | [d1, d2, d3] => { results := [.lit (.bool true)], args := [d1, d2, d3] }
  | _ => none }
def fnExactMakePatternRow : OpenClaim := { program := "ytlpgfemmbnkaiaa", sum := "db52df99f1372963577a51c3c29853915c0053352d9548d0999e9663cfc6230e", func := "loop.example/g01376/laws.FnExactMakePattern", spec := "fnExactMakePattern", unfollowed := true, recurses := true, apart := false }
def FnExactMakePatternSaid : Prop := fnExactMakePatternRow.holds Try.pinned (OpenSpec.ofChange fnExactMakePatternSpec)

/-- ITS FALSE NEIGHBOUR: 'it returns false'. Refute it at one input. -/
def fnExactMakePatternWrong : ChangeSpec := { name := "fnExactMakePattern", fn := fun _ => fun
  | [d1, d2, d3] => { results := [.lit (.bool false)], args := [d1, d2, d3] }
  | _ => none }
def FnExactMakePatternWrongFalsely : Prop := fnExactMakePatternRow.holds Try.pinned (OpenSpec.ofChange fnExactMakePatternWrong)

/-- 'laws.FnExactOffBy': WHATEVER THE INPUT: true; the input reads as it did. -/
def fnExactOffBySpec : ChangeSpec := { name := "fnExactOffBy", fn := fun _ => fun
  | [d1, d2, d3] => { results := [.lit (.bool true)], args := [d1, d2, d3] }
  | _ => none }
def fnExactOffByRow : OpenClaim := { program := "ytlpgfemmbnkaiaa", sum := "db52df99f1372963577a51c3c29853915c0053352d9548d0999e9663cfc6230e", func := "loop.example/g01376/laws.FnExactOffBy", spec := "fnExactOffBy", unfollowed := true, recurses := true, apart := false }
def FnExactOffBySaid : Prop := fnExactOffByRow.holds Try.pinned (OpenSpec.ofChange fnExactOffBySpec)

/-- ITS FALSE NEIGHBOUR: 'it returns false'. Refute it at one input. -/
def fnExactOffByWrong : ChangeSpec := { name := "fnExactOffBy", fn := fun _ => fun
  | [d1, d2, d3] => { results := [.lit (.bool false)], args := [d1, d2, d3] }
  | _ => none }
def FnExactOffByWrongFalsely : Prop := fnExactOffByRow.holds Try.pinned (OpenSpec.ofChange fnExactOffByWrong)

/-- 'laws.FnExactPatternOf': WHATEVER THE INPUT: true; the input reads as it did. -/
def fnExactPatternOfSpec : ChangeSpec := { name := "fnExactPatternOf", fn := fun _ => fun
  | [d1, d2, d3] => { results := [.lit (.bool true)], args := [d1, d2, d3] }
  | _ => none }
def fnExactPatternOfRow : OpenClaim := { program := "ytlpgfemmbnkaiaa", sum := "db52df99f1372963577a51c3c29853915c0053352d9548d0999e9663cfc6230e", func := "loop.example/g01376/laws.FnExactPatternOf", spec := "fnExactPatternOf", unfollowed := true, recurses := true, apart := false }
def FnExactPatternOfSaid : Prop := fnExactPatternOfRow.holds Try.pinned (OpenSpec.ofChange fnExactPatternOfSpec)

/-- ITS FALSE NEIGHBOUR: 'it returns false'. Refute it at one input. -/
def fnExactPatternOfWrong : ChangeSpec := { name := "fnExactPatternOf", fn := fun _ => fun
  | [d1, d2, d3] => { results := [.lit (.bool false)], args := [d1, d2, d3] }
  | _ => none }
def FnExactPatternOfWrongFalsely : Prop := fnExactPatternOfRow.holds Try.pinned (OpenSpec.ofChange fnExactPatternOfWrong)

/-- 'laws.FnExactOldestOf': WHATEVER THE INPUT: true; the input reads as it did. -/
def fnExactOldestOfSpec : ChangeSpec := { name := "fnExactOldestOf", fn := fun _ => fun
  | [d1, d2] => { results := [.lit (.bool true)], args := [d1, d2] }
  | _ => none }
def fnExactOldestOfRow : OpenClaim := { program := "ytlpgfemmbnkaiaa", sum := "db52df99f1372963577a51c3c29853915c0053352d9548d0999e9663cfc6230e", func := "loop.example/g01376/laws.FnExactOldestOf", spec := "fnExactOldestOf", unfollowed := true, recurses := true, apart := false }
def FnExactOldestOfSaid : Prop := fnExactOldestOfRow.holds Try.pinned (OpenSpec.ofChange fnExactOldestOfSpec)

/-- ITS FALSE NEIGHBOUR: 'it returns false'. Refute it at one input. -/
def fnExactOldestOfWrong : ChangeSpec := { name := "fnExactOldestOf", fn := fun _ => fun
  | [d1, d2] => { results := [.lit (.bool false)], args := [d1, d2] }
  | _ => none }
def FnExactOldestOfWrongFalsely : Prop := fnExactOldestOfRow.holds Try.pinned (OpenSpec.ofChange fnExactOldestOfWrong)

/-- 'laws.FnExactFirstBreak': WHATEVER THE INPUT: true; the input reads as it did. -/
def fnExactFirstBreakSpec : ChangeSpec := { name := "fnExactFirstBreak", fn := fun _ => fun
  | [d1, d2, d3] => { results := [.lit (.bool true)], args := [d1, d2, d3] }
  | _ => none }
def fnExactFirstBreakRow : OpenClaim := { program := "ytlpgfemmbnkaiaa", sum := "db52df99f1372963577a51c3c29853915c0053352d9548d0999e9663cfc6230e", func := "loop.example/g01376/laws.FnExactFirstBreak", spec := "fnExactFirstBreak", unfollowed := true, recurses := true, apart := false }
def FnExactFirstBreakSaid : Prop := fnExactFirstBreakRow.holds Try.pinned (OpenSpec.ofChange fnExactFirstBreakSpec)

/-- ITS FALSE NEIGHBOUR: 'it returns false'. Refute it at one input. -/
def fnExactFirstBreakWrong : ChangeSpec := { name := "fnExactFirstBreak", fn := fun _ => fun
  | [d1, d2, d3] => { results := [.lit (.bool false)], args := [d1, d2, d3] }
  | _ => none }
def FnExactFirstBreakWrongFalsely : Prop := fnExactFirstBreakRow.holds Try.pinned (OpenSpec.ofChange fnExactFirstBreakWrong)

/-- 'laws.FnExactTooOld': WHATEVER THE INPUT: true; the input reads as it did. -/
def fnExactTooOldSpec : ChangeSpec := { name := "fnExactTooOld", fn := fun _ => fun
  | [d1, d2, d3] => { results := [.lit (.bool true)], args := [d1, d2, d3] }
  | _ => none }
def fnExactTooOldRow : OpenClaim := { program := "ytlpgfemmbnkaiaa", sum := "db52df99f1372963577a51c3c29853915c0053352d9548d0999e9663cfc6230e", func := "loop.example/g01376/laws.FnExactTooOld", spec := "fnExactTooOld", unfollowed := true, recurses := true, apart := false }
def FnExactTooOldSaid : Prop := fnExactTooOldRow.holds Try.pinned (OpenSpec.ofChange fnExactTooOldSpec)

/-- ITS FALSE NEIGHBOUR: 'it returns false'. Refute it at one input. -/
def fnExactTooOldWrong : ChangeSpec := { name := "fnExactTooOld", fn := fun _ => fun
  | [d1, d2, d3] => { results := [.lit (.bool false)], args := [d1, d2, d3] }
  | _ => none }
def FnExactTooOldWrongFalsely : Prop := fnExactTooOldRow.holds Try.pinned (OpenSpec.ofChange fnExactTooOldWrong)

/-- 'laws.FnExactBreakRoof': WHATEVER THE INPUT: true; the input reads as it did. -/
def fnExactBreakRoofSpec : ChangeSpec := { name := "fnExactBreakRoof", fn := fun _ => fun
  | [d1, d2, d3, d4] => { results := [.lit (.bool true)], args := [d1, d2, d3, d4] }
  | _ => none }
def fnExactBreakRoofRow : OpenClaim := { program := "ytlpgfemmbnkaiaa", sum := "db52df99f1372963577a51c3c29853915c0053352d9548d0999e9663cfc6230e", func := "loop.example/g01376/laws.FnExactBreakRoof", spec := "fnExactBreakRoof", unfollowed := true, recurses := true, apart := false }
def FnExactBreakRoofSaid : Prop := fnExactBreakRoofRow.holds Try.pinned (OpenSpec.ofChange fnExactBreakRoofSpec)

/-- ITS FALSE NEIGHBOUR: 'it returns false'. Refute it at one input. -/
def fnExactBreakRoofWrong : ChangeSpec := { name := "fnExactBreakRoof", fn := fun _ => fun
  | [d1, d2, d3, d4] => { results := [.lit (.bool false)], args := [d1, d2, d3, d4] }
  | _ => none }
def FnExactBreakRoofWrongFalsely : Prop := fnExactBreakRoofRow.holds Try.pinned (OpenSpec.ofChange fnExactBreakRoofWrong)

/-- 'laws.FnExactLater': WHATEVER THE INPUT: true; the input reads as it did. -/
def fnExactLaterSpec : ChangeSpec := { name := "fnExactLater", fn := fun _ => fun
  | [d1, d2, d3] => { results := [.lit (.bool true)], args := [d1, d2, d3] }
  | _ => none }
def fnExactLaterRow : OpenClaim := { program := "ytlpgfemmbnkaiaa", sum := "db52df99f1372963577a51c3c29853915c0053352d9548d0999e9663cfc6230e", func := "loop.example/g01376/laws.FnExactLater", spec := "fnExactLater", unfollowed := true, recurses := true, apart := false }
def FnExactLaterSaid : Prop := fnExactLaterRow.holds Try.pinned (OpenSpec.ofChange fnExactLaterSpec)

/-- ITS FALSE NEIGHBOUR: 'it returns false'. Refute it at one input. -/
def fnExactLaterWrong : ChangeSpec := { name := "fnExactLater", fn := fun _ => fun
  | [d1, d2, d3] => { results := [.lit (.bool false)], args := [d1, d2, d3] }
  | _ => none }
def FnExactLaterWrongFalsely : Prop := fnExactLaterRow.holds Try.pinned (OpenSpec.ofChange fnExactLaterWrong)

/-- 'laws.FnExactCheckVisits': WHATEVER THE INPUT: true; the input reads as it did. -/
def fnExactCheckVisitsSpec : ChangeSpec := { name := "fnExactCheckVisits", fn := fun _ => fun
  | [d1, d2, d3, d4, d5] => { results := [.lit (.bool true)], args := [d1, d2, d3, d4, d5] }
  | _ => none }
def fnExactCheckVisitsRow : OpenClaim := { program := "ytlpgfemmbnkaiaa", sum := "db52df99f1372963577a51c3c29853915c0053352d9548d0999e9663cfc6230e", func := "loop.example/g01376/laws.FnExactCheckVisits", spec := "fnExactCheckVisits", unfollowed := true, recurses := true, apart := false }
def FnExactCheckVisitsSaid : Prop := fnExactCheckVisitsRow.holds Try.pinned (OpenSpec.ofChange fnExactCheckVisitsSpec)

/-- ITS FALSE NEIGHBOUR: 'it returns false'. Refute it at one input. -/
def fnExactCheckVisitsWrong : ChangeSpec := { name := "fnExactCheckVisits", fn := fun _ => fun
  | [d1, d2, d3, d4, d5] => { results := [.lit (.bool false)], args := [d1, d2, d3, d4, d5] }
  | _ => none }
def FnExactCheckVisitsWrongFalsely : Prop := fnExactCheckVisitsRow.holds Try.pinned (OpenSpec.ofChange fnExactCheckVisitsWrong)

/-- 'laws.FnExactVisitsFor': WHATEVER THE INPUT: true; the input reads as it did. -/
def fnExactVisitsForSpec : ChangeSpec := { name := "fnExactVisitsFor", fn := fun _ => fun
  | [d1, d2, d3, d4] => { results := [.lit (.bool true)], args := [d1, d2, d3, d4] }
  | _ => none }
def fnExactVisitsForRow : OpenClaim := { program := "ytlpgfemmbnkaiaa", sum := "db52df99f1372963577a51c3c29853915c0053352d9548d0999e9663cfc6230e", func := "loop.example/g01376/laws.FnExactVisitsFor", spec := "fnExactVisitsFor", unfollowed := true, recurses := true, apart := false }
def FnExactVisitsForSaid : Prop := fnExactVisitsForRow.holds Try.pinned (OpenSpec.ofChange fnExactVisitsForSpec)

/-- ITS FALSE NEIGHBOUR: 'it returns false'. Refute it at one input. -/
def fnExactVisitsForWrong : ChangeSpec := { name := "fnExactVisitsFor", fn := fun _ => fun
  | [d1, d2, d3, d4] => { results := [.lit (.bool false)], args := [d1, d2, d3, d4] }
  | _ => none }
def FnExactVisitsForWrongFalsely : Prop := fnExactVisitsForRow.holds Try.pinned (OpenSpec.ofChange fnExactVisitsForWrong)

/- THE SECOND FORM. 'bulk': how many values and letters a reading holds, each counted each time it is reached (what is shared counts as often as it is met; a slice's spare places count too). A statement '..UptoSaid' is the law's where the arguments, and the package variables that the reading takes, are together of bulk at most 1048576: NARROWER than '..Said'. Prove '..Said' where nothing that the law and all that it calls make is longer than what came in: it says more and counts as full. Else prove '..UptoSaid'. A law counts once. -/
mutual
def uptoBulk {H : Type} : DataW H → Nat
  | .lit (.string bytes) => bytes.length + 1
  | .lit _ => 1
  | .nil => 1
  | .ptr d => uptoBulk d + 1
  | .slice elems spare => uptoBulkAll elems + uptoBulkAll spare + 1
  | .agg parts => uptoBulkAll parts + 1
  | .iface _ d => uptoBulk d + 1
  | .map entries => uptoBulkEntries entries + 1
  | .held _ => 1
def uptoBulkAll {H : Type} : List (DataW H) → Nat
  | [] => 0
  | d :: r => uptoBulk d + uptoBulkAll r
def uptoBulkEntries {H : Type} : List (Lit × DataW H) → Nat
  | [] => 0
  | x :: r => uptoBulkEntry x + uptoBulkEntries r
def uptoBulkEntry {H : Type} : Lit × DataW H → Nat
  | (.string bytes, d) => bytes.length + uptoBulk d + 1
  | (_, d) => uptoBulk d + 1
 end
def uptoSmall : (H : Type) → List (DataW H) → Bool := fun _ ds => decide (uptoBulkAll ds ≤ 1048576)
def OpenSpec.upto (s : _root_.Go.ChangeSpec) : _root_.Go.OpenSpec := { _root_.Go.OpenSpec.ofChange s with cond := some uptoSmall }

/-- 'laws.FnExactValidWord', WHERE WHAT IT READS IS OF BULK AT MOST 1048576: true; the input reads as it did. -/
def fnExactValidWordUptoRow : OpenClaim := { program := "ytlpgfemmbnkaiaa", sum := "db52df99f1372963577a51c3c29853915c0053352d9548d0999e9663cfc6230e", func := "loop.example/g01376/laws.FnExactValidWord", spec := "fnExactValidWord", unfollowed := true, recurses := true, apart := false, narrowed := true }
def FnExactValidWordUptoSaid : Prop := fnExactValidWordUptoRow.holds Try.pinned (OpenSpec.upto fnExactValidWordSpec)

/-- 'laws.FnExactValidColours', WHERE WHAT IT READS IS OF BULK AT MOST 1048576: true; the input reads as it did. -/
def fnExactValidColoursUptoRow : OpenClaim := { program := "ytlpgfemmbnkaiaa", sum := "db52df99f1372963577a51c3c29853915c0053352d9548d0999e9663cfc6230e", func := "loop.example/g01376/laws.FnExactValidColours", spec := "fnExactValidColours", apart := false, narrowed := true }
def FnExactValidColoursUptoSaid : Prop := fnExactValidColoursUptoRow.holds Try.pinned (OpenSpec.upto fnExactValidColoursSpec)

/-- 'laws.FnExactValidAges', WHERE WHAT IT READS IS OF BULK AT MOST 1048576: true; the input reads as it did. -/
def fnExactValidAgesUptoRow : OpenClaim := { program := "ytlpgfemmbnkaiaa", sum := "db52df99f1372963577a51c3c29853915c0053352d9548d0999e9663cfc6230e", func := "loop.example/g01376/laws.FnExactValidAges", spec := "fnExactValidAges", apart := false, narrowed := true }
def FnExactValidAgesUptoSaid : Prop := fnExactValidAgesUptoRow.holds Try.pinned (OpenSpec.upto fnExactValidAgesSpec)

/-- 'laws.FnExactMirrorColours', WHERE WHAT IT READS IS OF BULK AT MOST 1048576: true; the input reads as it did. -/
def fnExactMirrorColoursUptoRow : OpenClaim := { program := "ytlpgfemmbnkaiaa", sum := "db52df99f1372963577a51c3c29853915c0053352d9548d0999e9663cfc6230e", func := "loop.example/g01376/laws.FnExactMirrorColours", spec := "fnExactMirrorColours", apart := false, narrowed := true }
def FnExactMirrorColoursUptoSaid : Prop := fnExactMirrorColoursUptoRow.holds Try.pinned (OpenSpec.upto fnExactMirrorColoursSpec)

/-- 'laws.FnExactColoursText', WHERE WHAT IT READS IS OF BULK AT MOST 1048576: true; the input reads as it did. -/
def fnExactColoursTextUptoRow : OpenClaim := { program := "ytlpgfemmbnkaiaa", sum := "db52df99f1372963577a51c3c29853915c0053352d9548d0999e9663cfc6230e", func := "loop.example/g01376/laws.FnExactColoursText", spec := "fnExactColoursText", apart := false, narrowed := true }
def FnExactColoursTextUptoSaid : Prop := fnExactColoursTextUptoRow.holds Try.pinned (OpenSpec.upto fnExactColoursTextSpec)

/-- 'laws.FnExactCountColour', WHERE WHAT IT READS IS OF BULK AT MOST 1048576: true; the input reads as it did. -/
def fnExactCountColourUptoRow : OpenClaim := { program := "ytlpgfemmbnkaiaa", sum := "db52df99f1372963577a51c3c29853915c0053352d9548d0999e9663cfc6230e", func := "loop.example/g01376/laws.FnExactCountColour", spec := "fnExactCountColour", unfollowed := true, recurses := true, apart := false, narrowed := true }
def FnExactCountColourUptoSaid : Prop := fnExactCountColourUptoRow.holds Try.pinned (OpenSpec.upto fnExactCountColourSpec)

/-- 'laws.FnExactMakePattern', WHERE WHAT IT READS IS OF BULK AT MOST 1048576: true; the input reads as it did. -/
def fnExactMakePatternUptoRow : OpenClaim := { program := "ytlpgfemmbnkaiaa", sum := "db52df99f1372963577a51c3c29853915c0053352d9548d0999e9663cfc6230e", func := "loop.example/g01376/laws.FnExactMakePattern", spec := "fnExactMakePattern", unfollowed := true, recurses := true, apart := false, narrowed := true }
def FnExactMakePatternUptoSaid : Prop := fnExactMakePatternUptoRow.holds Try.pinned (OpenSpec.upto fnExactMakePatternSpec)

/-- 'laws.FnExactOffBy', WHERE WHAT IT READS IS OF BULK AT MOST 1048576: true; the input reads as it did. -/
def fnExactOffByUptoRow : OpenClaim := { program := "ytlpgfemmbnkaiaa", sum := "db52df99f1372963577a51c3c29853915c0053352d9548d0999e9663cfc6230e", func := "loop.example/g01376/laws.FnExactOffBy", spec := "fnExactOffBy", unfollowed := true, recurses := true, apart := false, narrowed := true }
def FnExactOffByUptoSaid : Prop := fnExactOffByUptoRow.holds Try.pinned (OpenSpec.upto fnExactOffBySpec)

/-- 'laws.FnExactPatternOf', WHERE WHAT IT READS IS OF BULK AT MOST 1048576: true; the input reads as it did. -/
def fnExactPatternOfUptoRow : OpenClaim := { program := "ytlpgfemmbnkaiaa", sum := "db52df99f1372963577a51c3c29853915c0053352d9548d0999e9663cfc6230e", func := "loop.example/g01376/laws.FnExactPatternOf", spec := "fnExactPatternOf", unfollowed := true, recurses := true, apart := false, narrowed := true }
def FnExactPatternOfUptoSaid : Prop := fnExactPatternOfUptoRow.holds Try.pinned (OpenSpec.upto fnExactPatternOfSpec)

/-- 'laws.FnExactOldestOf', WHERE WHAT IT READS IS OF BULK AT MOST 1048576: true; the input reads as it did. -/
def fnExactOldestOfUptoRow : OpenClaim := { program := "ytlpgfemmbnkaiaa", sum := "db52df99f1372963577a51c3c29853915c0053352d9548d0999e9663cfc6230e", func := "loop.example/g01376/laws.FnExactOldestOf", spec := "fnExactOldestOf", unfollowed := true, recurses := true, apart := false, narrowed := true }
def FnExactOldestOfUptoSaid : Prop := fnExactOldestOfUptoRow.holds Try.pinned (OpenSpec.upto fnExactOldestOfSpec)

/-- 'laws.FnExactFirstBreak', WHERE WHAT IT READS IS OF BULK AT MOST 1048576: true; the input reads as it did. -/
def fnExactFirstBreakUptoRow : OpenClaim := { program := "ytlpgfemmbnkaiaa", sum := "db52df99f1372963577a51c3c29853915c0053352d9548d0999e9663cfc6230e", func := "loop.example/g01376/laws.FnExactFirstBreak", spec := "fnExactFirstBreak", unfollowed := true, recurses := true, apart := false, narrowed := true }
def FnExactFirstBreakUptoSaid : Prop := fnExactFirstBreakUptoRow.holds Try.pinned (OpenSpec.upto fnExactFirstBreakSpec)

/-- 'laws.FnExactTooOld', WHERE WHAT IT READS IS OF BULK AT MOST 1048576: true; the input reads as it did. -/
def fnExactTooOldUptoRow : OpenClaim := { program := "ytlpgfemmbnkaiaa", sum := "db52df99f1372963577a51c3c29853915c0053352d9548d0999e9663cfc6230e", func := "loop.example/g01376/laws.FnExactTooOld", spec := "fnExactTooOld", unfollowed := true, recurses := true, apart := false, narrowed := true }
def FnExactTooOldUptoSaid : Prop := fnExactTooOldUptoRow.holds Try.pinned (OpenSpec.upto fnExactTooOldSpec)

/-- 'laws.FnExactBreakRoof', WHERE WHAT IT READS IS OF BULK AT MOST 1048576: true; the input reads as it did. -/
def fnExactBreakRoofUptoRow : OpenClaim := { program := "ytlpgfemmbnkaiaa", sum := "db52df99f1372963577a51c3c29853915c0053352d9548d0999e9663cfc6230e", func := "loop.example/g01376/laws.FnExactBreakRoof", spec := "fnExactBreakRoof", unfollowed := true, recurses := true, apart := false, narrowed := true }
def FnExactBreakRoofUptoSaid : Prop := fnExactBreakRoofUptoRow.holds Try.pinned (OpenSpec.upto fnExactBreakRoofSpec)

/-- 'laws.FnExactLater', WHERE WHAT IT READS IS OF BULK AT MOST 1048576: true; the input reads as it did. -/
def fnExactLaterUptoRow : OpenClaim := { program := "ytlpgfemmbnkaiaa", sum := "db52df99f1372963577a51c3c29853915c0053352d9548d0999e9663cfc6230e", func := "loop.example/g01376/laws.FnExactLater", spec := "fnExactLater", unfollowed := true, recurses := true, apart := false, narrowed := true }
def FnExactLaterUptoSaid : Prop := fnExactLaterUptoRow.holds Try.pinned (OpenSpec.upto fnExactLaterSpec)

/-- 'laws.FnExactCheckVisits', WHERE WHAT IT READS IS OF BULK AT MOST 1048576: true; the input reads as it did. -/
def fnExactCheckVisitsUptoRow : OpenClaim := { program := "ytlpgfemmbnkaiaa", sum := "db52df99f1372963577a51c3c29853915c0053352d9548d0999e9663cfc6230e", func := "loop.example/g01376/laws.FnExactCheckVisits", spec := "fnExactCheckVisits", unfollowed := true, recurses := true, apart := false, narrowed := true }
def FnExactCheckVisitsUptoSaid : Prop := fnExactCheckVisitsUptoRow.holds Try.pinned (OpenSpec.upto fnExactCheckVisitsSpec)

/-- 'laws.FnExactVisitsFor', WHERE WHAT IT READS IS OF BULK AT MOST 1048576: true; the input reads as it did. -/
def fnExactVisitsForUptoRow : OpenClaim := { program := "ytlpgfemmbnkaiaa", sum := "db52df99f1372963577a51c3c29853915c0053352d9548d0999e9663cfc6230e", func := "loop.example/g01376/laws.FnExactVisitsFor", spec := "fnExactVisitsFor", unfollowed := true, recurses := true, apart := false, narrowed := true }
def FnExactVisitsForUptoSaid : Prop := fnExactVisitsForUptoRow.holds Try.pinned (OpenSpec.upto fnExactVisitsForSpec)

end Rows
end Go.Proofs.Ytlpgfemmbnkaiaa
