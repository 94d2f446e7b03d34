/-
  DERIVED. GIVEN WITH THE SEED: THE CARDS: each row of YtpkpdbohalbbaaaDoorRows.lean that lists a variable, with what it lists TIED to the program's text (the seventh form; the later family's looks); each row that meets fmt, with fmt's text TOLD by the authors' own Lean function (tested against real Go, not proved from fmt's source: count such statements apart). THE CARD IS WHAT COUNTS. Prove the row's statement (the work); the ties are given (YtpkpdbohalbbaaaDoorTie.lean); close each card by the builder's one call (the guide's Derived/Test/ToyasCard.lean, 'card_holds'). Laid BY PROGRAM, IN A SANDBOX (cutbox-door.mjs). By AI agents, Wed Nov 11 2026. No macro, syntax, notation, axiom, sorry.
-/
import Derived.Test.YtpkpdbohalbbaaaDoorRows
import GoSem.ClaimSeven
namespace Go.Proofs.YtpkpdbohalbbaaaDoor
namespace Rows

/-- THE TIED CARD OF 'laws.FnExactFormatEntry'. -/
def fnExactFormatEntryCard : Claim7 := { stood := { row := fnExactFormatEntryRow, standIns := [], harness := (true, "96aae8ff7608ce531fa6561b67f159ee19d5c56cab7ba019f90e5a178a5be6d3"), looks := false }, kinds := [], alts := [], laidByText := true, laidKinds := [.data, .data, .data], laidTests := true, laidLooks := .later }
def FnExactFormatEntryCardSaid : Prop := Claim7.holds Tryd.pinned (.plain (OpenSpec.ofChange fnExactFormatEntrySpec)) fnExactFormatEntryCard

/-- THE TIED CARD OF 'laws.FnExactParseEntry'. -/
def fnExactParseEntryCard : Claim7 := { stood := { row := fnExactParseEntryRow, standIns := [], harness := (true, "96aae8ff7608ce531fa6561b67f159ee19d5c56cab7ba019f90e5a178a5be6d3"), looks := false }, kinds := [], alts := [], laidByText := true, laidKinds := [.data, .pinned], laidTests := true, laidLooks := .later }
def FnExactParseEntryCardSaid : Prop := Claim7.holds Tryd.pinned (.plain (OpenSpec.ofChange fnExactParseEntrySpec)) fnExactParseEntryCard

/-- THE TIED CARD OF 'laws.FnEntryText'. -/
def fnEntryTextCard : Claim7 := { stood := { row := fnEntryTextRow, standIns := [], harness := (true, "96aae8ff7608ce531fa6561b67f159ee19d5c56cab7ba019f90e5a178a5be6d3"), looks := false }, kinds := [], alts := [], laidByText := true, laidKinds := [.data, .data, .data, .data, .pinned], laidTests := true, laidLooks := .later }
def FnEntryTextCardSaid : Prop := Claim7.holds Tryd.pinned (.plain (OpenSpec.ofChange fnEntryTextSpec)) fnEntryTextCard

/-- THE SECOND FORM's CARD OF 'laws.FnExactFormatEntry'. -/
def fnExactFormatEntryUptoCard : Claim7 := { stood := { row := fnExactFormatEntryUptoRow, standIns := [], harness := (true, "96aae8ff7608ce531fa6561b67f159ee19d5c56cab7ba019f90e5a178a5be6d3"), looks := false }, kinds := [], alts := [], laidByText := true, laidKinds := [.data, .data, .data], laidTests := true, laidLooks := .later }
def FnExactFormatEntryUptoCardSaid : Prop := Claim7.holds Tryd.pinned (.plain (OpenSpec.upto fnExactFormatEntrySpec)) fnExactFormatEntryUptoCard

/-- THE SECOND FORM's CARD OF 'laws.FnExactParseEntry'. -/
def fnExactParseEntryUptoCard : Claim7 := { stood := { row := fnExactParseEntryUptoRow, standIns := [], harness := (true, "96aae8ff7608ce531fa6561b67f159ee19d5c56cab7ba019f90e5a178a5be6d3"), looks := false }, kinds := [], alts := [], laidByText := true, laidKinds := [.data, .pinned], laidTests := true, laidLooks := .later }
def FnExactParseEntryUptoCardSaid : Prop := Claim7.holds Tryd.pinned (.plain (OpenSpec.upto fnExactParseEntrySpec)) fnExactParseEntryUptoCard

/-- THE SECOND FORM's CARD OF 'laws.FnEntryText'. -/
def fnEntryTextUptoCard : Claim7 := { stood := { row := fnEntryTextUptoRow, standIns := [], harness := (true, "96aae8ff7608ce531fa6561b67f159ee19d5c56cab7ba019f90e5a178a5be6d3"), looks := false }, kinds := [], alts := [], laidByText := true, laidKinds := [.data, .data, .data, .data, .pinned], laidTests := true, laidLooks := .later }
def FnEntryTextUptoCardSaid : Prop := Claim7.holds Tryd.pinned (.plain (OpenSpec.upto fnEntryTextSpec)) fnEntryTextUptoCard
end Rows
end Go.Proofs.YtpkpdbohalbbaaaDoor
