/-
  DERIVED. GIVEN WITH THE SEED: THE CARDS: each row of YtdbhfobnmlogeaaDoorRows.lean that lists a variable, with what it lists TIED to the program's text (the seventh form; the later family's looks); each row that meets fmt, with fmt's text TOLD by the authors' own Lean function (tested against real Go, not proved from fmt's source: count such statements apart). THE CARD IS WHAT COUNTS. Prove the row's statement (the work); the ties are given (YtdbhfobnmlogeaaDoorTie.lean); close each card by the builder's one call (the guide's Derived/Test/ToyasCard.lean, 'card_holds'). Laid BY PROGRAM, IN A SANDBOX (cutbox-door.mjs). By AI agents, Wed Nov 11 2026. No macro, syntax, notation, axiom, sorry.
-/
import Derived.Test.YtdbhfobnmlogeaaDoorRows
import GoSem.ClaimSeven
namespace Go.Proofs.YtdbhfobnmlogeaaDoor
namespace Rows

/-- THE TIED CARD OF 'laws.FnExactReadColours'. -/
def fnExactReadColoursCard : Claim7 := { stood := { row := fnExactReadColoursRow, standIns := [], harness := (true, "5bbe10ea3b9883b30bfcdbe4e9f41651508123a1eb2eeb5811d7d5235778f619"), looks := true }, kinds := [], alts := [], laidByText := true, laidKinds := [.data, .pinned], laidTests := true, laidLooks := .later }
def FnExactReadColoursCardSaid : Prop := Claim7.holds Tryd.pinned (.plain (OpenSpec.ofChange fnExactReadColoursSpec)) fnExactReadColoursCard

/-- THE TIED CARD OF 'laws.FnExactGutterText'. -/
def fnExactGutterTextCard : Claim7 := { stood := { row := fnExactGutterTextRow, standIns := [], harness := (true, "5bbe10ea3b9883b30bfcdbe4e9f41651508123a1eb2eeb5811d7d5235778f619"), looks := true }, kinds := [], alts := [], laidByText := true, laidKinds := [.data, .data, .data], laidTests := true, laidLooks := .later }
def FnExactGutterTextCardSaid : Prop := Claim7.holds Tryd.pinned (.plain (OpenSpec.ofChange fnExactGutterTextSpec)) fnExactGutterTextCard

/-- THE TIED CARD OF 'laws.FnExactRainText'. -/
def fnExactRainTextCard : Claim7 := { stood := { row := fnExactRainTextRow, standIns := [], harness := (true, "5bbe10ea3b9883b30bfcdbe4e9f41651508123a1eb2eeb5811d7d5235778f619"), looks := true }, kinds := [], alts := [], laidByText := true, laidKinds := [.data, .data, .data], laidTests := true, laidLooks := .later }
def FnExactRainTextCardSaid : Prop := Claim7.holds Tryd.pinned (.plain (OpenSpec.ofChange fnExactRainTextSpec)) fnExactRainTextCard

/-- THE TIED CARD OF 'laws.FnExactDripsText'. -/
def fnExactDripsTextCard : Claim7 := { stood := { row := fnExactDripsTextRow, standIns := [], harness := (true, "5bbe10ea3b9883b30bfcdbe4e9f41651508123a1eb2eeb5811d7d5235778f619"), looks := true }, kinds := [], alts := [], laidByText := true, laidKinds := [.data, .data, .data], laidTests := true, laidLooks := .later }
def FnExactDripsTextCardSaid : Prop := Claim7.holds Tryd.pinned (.plain (OpenSpec.ofChange fnExactDripsTextSpec)) fnExactDripsTextCard

/-- THE TIED CARD OF 'laws.FnExactReadRain'. -/
def fnExactReadRainCard : Claim7 := { stood := { row := fnExactReadRainRow, standIns := [], harness := (true, "5bbe10ea3b9883b30bfcdbe4e9f41651508123a1eb2eeb5811d7d5235778f619"), looks := true }, kinds := [], alts := [], laidByText := true, laidKinds := [.data, .data, .data, .data, .sentinel, .sentinel, .pinned], laidTests := true, laidLooks := .later }
def FnExactReadRainCardSaid : Prop := Claim7.holds Tryd.pinned (.plain (OpenSpec.ofChange fnExactReadRainSpec)) fnExactReadRainCard

/-- THE TIED CARD OF 'laws.FnExactReadGutter'. -/
def fnExactReadGutterCard : Claim7 := { stood := { row := fnExactReadGutterRow, standIns := [], harness := (true, "5bbe10ea3b9883b30bfcdbe4e9f41651508123a1eb2eeb5811d7d5235778f619"), looks := true }, kinds := [], alts := [], laidByText := true, laidKinds := [.data, .data, .data, .data, .sentinel, .sentinel, .pinned], laidTests := true, laidLooks := .later }
def FnExactReadGutterCardSaid : Prop := Claim7.holds Tryd.pinned (.plain (OpenSpec.ofChange fnExactReadGutterSpec)) fnExactReadGutterCard

/-- THE TIED CARD OF 'laws.FnExactReadDrips'. -/
def fnExactReadDripsCard : Claim7 := { stood := { row := fnExactReadDripsRow, standIns := [], harness := (true, "5bbe10ea3b9883b30bfcdbe4e9f41651508123a1eb2eeb5811d7d5235778f619"), looks := true }, kinds := [], alts := [], laidByText := true, laidKinds := [.data, .data, .data, .data, .sentinel, .sentinel, .pinned], laidTests := true, laidLooks := .later }
def FnExactReadDripsCardSaid : Prop := Claim7.holds Tryd.pinned (.plain (OpenSpec.ofChange fnExactReadDripsSpec)) fnExactReadDripsCard

/-- THE TIED CARD OF 'laws.FnPatterns'. -/
def fnPatternsCard : Claim7 := { stood := { row := fnPatternsRow, standIns := [], harness := (true, "5bbe10ea3b9883b30bfcdbe4e9f41651508123a1eb2eeb5811d7d5235778f619"), looks := true }, kinds := [], alts := [], laidByText := true, laidKinds := [.data, .pinned], laidTests := true, laidLooks := .later }
def FnPatternsCardSaid : Prop := Claim7.holds Tryd.pinned (.plain (OpenSpec.ofChange fnPatternsSpec)) fnPatternsCard

/-- THE SECOND FORM's CARD OF 'laws.FnExactReadColours'. -/
def fnExactReadColoursUptoCard : Claim7 := { stood := { row := fnExactReadColoursUptoRow, standIns := [], harness := (true, "5bbe10ea3b9883b30bfcdbe4e9f41651508123a1eb2eeb5811d7d5235778f619"), looks := true }, kinds := [], alts := [], laidByText := true, laidKinds := [.data, .pinned], laidTests := true, laidLooks := .later }
def FnExactReadColoursUptoCardSaid : Prop := Claim7.holds Tryd.pinned (.plain (OpenSpec.upto fnExactReadColoursSpec)) fnExactReadColoursUptoCard

/-- THE SECOND FORM's CARD OF 'laws.FnExactGutterText'. -/
def fnExactGutterTextUptoCard : Claim7 := { stood := { row := fnExactGutterTextUptoRow, standIns := [], harness := (true, "5bbe10ea3b9883b30bfcdbe4e9f41651508123a1eb2eeb5811d7d5235778f619"), looks := true }, kinds := [], alts := [], laidByText := true, laidKinds := [.data, .data, .data], laidTests := true, laidLooks := .later }
def FnExactGutterTextUptoCardSaid : Prop := Claim7.holds Tryd.pinned (.plain (OpenSpec.upto fnExactGutterTextSpec)) fnExactGutterTextUptoCard

/-- THE SECOND FORM's CARD OF 'laws.FnExactRainText'. -/
def fnExactRainTextUptoCard : Claim7 := { stood := { row := fnExactRainTextUptoRow, standIns := [], harness := (true, "5bbe10ea3b9883b30bfcdbe4e9f41651508123a1eb2eeb5811d7d5235778f619"), looks := true }, kinds := [], alts := [], laidByText := true, laidKinds := [.data, .data, .data], laidTests := true, laidLooks := .later }
def FnExactRainTextUptoCardSaid : Prop := Claim7.holds Tryd.pinned (.plain (OpenSpec.upto fnExactRainTextSpec)) fnExactRainTextUptoCard

/-- THE SECOND FORM's CARD OF 'laws.FnExactDripsText'. -/
def fnExactDripsTextUptoCard : Claim7 := { stood := { row := fnExactDripsTextUptoRow, standIns := [], harness := (true, "5bbe10ea3b9883b30bfcdbe4e9f41651508123a1eb2eeb5811d7d5235778f619"), looks := true }, kinds := [], alts := [], laidByText := true, laidKinds := [.data, .data, .data], laidTests := true, laidLooks := .later }
def FnExactDripsTextUptoCardSaid : Prop := Claim7.holds Tryd.pinned (.plain (OpenSpec.upto fnExactDripsTextSpec)) fnExactDripsTextUptoCard

/-- THE SECOND FORM's CARD OF 'laws.FnExactReadRain'. -/
def fnExactReadRainUptoCard : Claim7 := { stood := { row := fnExactReadRainUptoRow, standIns := [], harness := (true, "5bbe10ea3b9883b30bfcdbe4e9f41651508123a1eb2eeb5811d7d5235778f619"), looks := true }, kinds := [], alts := [], laidByText := true, laidKinds := [.data, .data, .data, .data, .sentinel, .sentinel, .pinned], laidTests := true, laidLooks := .later }
def FnExactReadRainUptoCardSaid : Prop := Claim7.holds Tryd.pinned (.plain (OpenSpec.upto fnExactReadRainSpec)) fnExactReadRainUptoCard

/-- THE SECOND FORM's CARD OF 'laws.FnExactReadGutter'. -/
def fnExactReadGutterUptoCard : Claim7 := { stood := { row := fnExactReadGutterUptoRow, standIns := [], harness := (true, "5bbe10ea3b9883b30bfcdbe4e9f41651508123a1eb2eeb5811d7d5235778f619"), looks := true }, kinds := [], alts := [], laidByText := true, laidKinds := [.data, .data, .data, .data, .sentinel, .sentinel, .pinned], laidTests := true, laidLooks := .later }
def FnExactReadGutterUptoCardSaid : Prop := Claim7.holds Tryd.pinned (.plain (OpenSpec.upto fnExactReadGutterSpec)) fnExactReadGutterUptoCard

/-- THE SECOND FORM's CARD OF 'laws.FnExactReadDrips'. -/
def fnExactReadDripsUptoCard : Claim7 := { stood := { row := fnExactReadDripsUptoRow, standIns := [], harness := (true, "5bbe10ea3b9883b30bfcdbe4e9f41651508123a1eb2eeb5811d7d5235778f619"), looks := true }, kinds := [], alts := [], laidByText := true, laidKinds := [.data, .data, .data, .data, .sentinel, .sentinel, .pinned], laidTests := true, laidLooks := .later }
def FnExactReadDripsUptoCardSaid : Prop := Claim7.holds Tryd.pinned (.plain (OpenSpec.upto fnExactReadDripsSpec)) fnExactReadDripsUptoCard

/-- THE SECOND FORM's CARD OF 'laws.FnPatterns'. -/
def fnPatternsUptoCard : Claim7 := { stood := { row := fnPatternsUptoRow, standIns := [], harness := (true, "5bbe10ea3b9883b30bfcdbe4e9f41651508123a1eb2eeb5811d7d5235778f619"), looks := true }, kinds := [], alts := [], laidByText := true, laidKinds := [.data, .pinned], laidTests := true, laidLooks := .later }
def FnPatternsUptoCardSaid : Prop := Claim7.holds Tryd.pinned (.plain (OpenSpec.upto fnPatternsSpec)) fnPatternsUptoCard
end Rows
end Go.Proofs.YtdbhfobnmlogeaaDoor
