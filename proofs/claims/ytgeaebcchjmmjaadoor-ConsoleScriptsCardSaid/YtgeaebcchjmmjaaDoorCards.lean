/-
  DERIVED. GIVEN WITH THE SEED: THE CARDS: each row of YtgeaebcchjmmjaaDoorRows.lean that lists a variable, with what it lists TIED to the program's text (the seventh form; the later family's looks); each row that meets fmt, with fmt's text TOLD by the authors' own Lean function (tested against real Go, not proved from fmt's source: count such statements apart). THE CARD IS WHAT COUNTS. Prove the row's statement (the work); the ties are given (YtgeaebcchjmmjaaDoorTie.lean); close each card by the builder's one call (the guide's Derived/Test/ToyasCard.lean, 'card_holds'). Laid BY PROGRAM, IN A SANDBOX (cutbox-door.mjs). By AI agents, Wed Nov 11 2026. No macro, syntax, notation, axiom, sorry.
-/
import Derived.Test.YtgeaebcchjmmjaaDoorRows
import GoSem.ClaimSeven
namespace Go.Proofs.YtgeaebcchjmmjaaDoor
namespace Rows

/-- THE TIED CARD OF 'tattinglaw02.NamedFolds'. -/
def namedFoldsCard : Claim7 := { stood := { row := namedFoldsRow, standIns := [], harness := (true, "2c9b0e26af058aa695c4d2c6e0a038ebbaf132d99a3032fa5e261175b2892072"), looks := true }, kinds := [], alts := [], laidByText := true, laidKinds := [.data], laidTests := true, laidLooks := .later }
def NamedFoldsCardSaid : Prop := Claim7.holds Tryd.pinned (.plain (OpenSpec.ofChange namedFoldsSpec)) namedFoldsCard

/-- THE TIED CARD OF 'tattinglaw02.NamedEscapes'. -/
def namedEscapesCard : Claim7 := { stood := { row := namedEscapesRow, standIns := [], harness := (true, "2c9b0e26af058aa695c4d2c6e0a038ebbaf132d99a3032fa5e261175b2892072"), looks := true }, kinds := [], alts := [], laidByText := true, laidKinds := [.data], laidTests := true, laidLooks := .later }
def NamedEscapesCardSaid : Prop := Claim7.holds Tryd.pinned (.plain (OpenSpec.ofChange namedEscapesSpec)) namedEscapesCard

/-- THE TIED CARD OF 'tattinglaw02.NamedClasses'. -/
def namedClassesCard : Claim7 := { stood := { row := namedClassesRow, standIns := [], harness := (true, "2c9b0e26af058aa695c4d2c6e0a038ebbaf132d99a3032fa5e261175b2892072"), looks := true }, kinds := [], alts := [], laidByText := true, laidKinds := [.data], laidTests := true, laidLooks := .later }
def NamedClassesCardSaid : Prop := Claim7.holds Tryd.pinned (.plain (OpenSpec.ofChange namedClassesSpec)) namedClassesCard

/-- THE TIED CARD OF 'tattinglaw43.ConsoleReads'. -/
def consoleReadsCard : Claim7 := { stood := { row := consoleReadsRow, standIns := [], harness := (true, "2c9b0e26af058aa695c4d2c6e0a038ebbaf132d99a3032fa5e261175b2892072"), looks := true }, kinds := [], alts := [], laidByText := true, laidKinds := [.data, .data, .data, .data, .sentinel, .sentinel, .pinned], laidTests := true, laidLooks := .later }
def ConsoleReadsCardSaid : Prop := Claim7.holds Tryd.pinned (.plain (OpenSpec.ofChange consoleReadsSpec)) consoleReadsCard

/-- THE TIED CARD OF 'tattinglaw43.ConsoleLines'. -/
def consoleLinesCard : Claim7 := { stood := { row := consoleLinesRow, standIns := [], harness := (true, "2c9b0e26af058aa695c4d2c6e0a038ebbaf132d99a3032fa5e261175b2892072"), looks := true }, kinds := [], alts := [], laidByText := true, laidKinds := [.data, .data, .data, .data, .sentinel, .sentinel, .pinned], laidTests := true, laidLooks := .later }
def ConsoleLinesCardSaid : Prop := Claim7.holds Tryd.pinned (.plain (OpenSpec.ofChange consoleLinesSpec)) consoleLinesCard

/-- THE TIED CARD OF 'tattinglaw43.ConsoleScripts'. -/
def consoleScriptsCard : Claim7 := { stood := { row := consoleScriptsRow, standIns := [], harness := (true, "2c9b0e26af058aa695c4d2c6e0a038ebbaf132d99a3032fa5e261175b2892072"), looks := true }, kinds := [], alts := [], laidByText := true, laidKinds := [.data, .data, .data, .data, .sentinel, .sentinel, .pinned], laidTests := true, laidLooks := .later }
def ConsoleScriptsCardSaid : Prop := Claim7.holds Tryd.pinned (.plain (OpenSpec.ofChange consoleScriptsSpec)) consoleScriptsCard

/-- THE SECOND FORM's CARD OF 'tattinglaw02.NamedFolds'. -/
def namedFoldsUptoCard : Claim7 := { stood := { row := namedFoldsUptoRow, standIns := [], harness := (true, "2c9b0e26af058aa695c4d2c6e0a038ebbaf132d99a3032fa5e261175b2892072"), looks := true }, kinds := [], alts := [], laidByText := true, laidKinds := [.data], laidTests := true, laidLooks := .later }
def NamedFoldsUptoCardSaid : Prop := Claim7.holds Tryd.pinned (.plain (OpenSpec.upto namedFoldsSpec)) namedFoldsUptoCard

/-- THE SECOND FORM's CARD OF 'tattinglaw02.NamedEscapes'. -/
def namedEscapesUptoCard : Claim7 := { stood := { row := namedEscapesUptoRow, standIns := [], harness := (true, "2c9b0e26af058aa695c4d2c6e0a038ebbaf132d99a3032fa5e261175b2892072"), looks := true }, kinds := [], alts := [], laidByText := true, laidKinds := [.data], laidTests := true, laidLooks := .later }
def NamedEscapesUptoCardSaid : Prop := Claim7.holds Tryd.pinned (.plain (OpenSpec.upto namedEscapesSpec)) namedEscapesUptoCard

/-- THE SECOND FORM's CARD OF 'tattinglaw02.NamedClasses'. -/
def namedClassesUptoCard : Claim7 := { stood := { row := namedClassesUptoRow, standIns := [], harness := (true, "2c9b0e26af058aa695c4d2c6e0a038ebbaf132d99a3032fa5e261175b2892072"), looks := true }, kinds := [], alts := [], laidByText := true, laidKinds := [.data], laidTests := true, laidLooks := .later }
def NamedClassesUptoCardSaid : Prop := Claim7.holds Tryd.pinned (.plain (OpenSpec.upto namedClassesSpec)) namedClassesUptoCard

/-- THE SECOND FORM's CARD OF 'tattinglaw43.ConsoleReads'. -/
def consoleReadsUptoCard : Claim7 := { stood := { row := consoleReadsUptoRow, standIns := [], harness := (true, "2c9b0e26af058aa695c4d2c6e0a038ebbaf132d99a3032fa5e261175b2892072"), looks := true }, kinds := [], alts := [], laidByText := true, laidKinds := [.data, .data, .data, .data, .sentinel, .sentinel, .pinned], laidTests := true, laidLooks := .later }
def ConsoleReadsUptoCardSaid : Prop := Claim7.holds Tryd.pinned (.plain (OpenSpec.upto consoleReadsSpec)) consoleReadsUptoCard

/-- THE SECOND FORM's CARD OF 'tattinglaw43.ConsoleLines'. -/
def consoleLinesUptoCard : Claim7 := { stood := { row := consoleLinesUptoRow, standIns := [], harness := (true, "2c9b0e26af058aa695c4d2c6e0a038ebbaf132d99a3032fa5e261175b2892072"), looks := true }, kinds := [], alts := [], laidByText := true, laidKinds := [.data, .data, .data, .data, .sentinel, .sentinel, .pinned], laidTests := true, laidLooks := .later }
def ConsoleLinesUptoCardSaid : Prop := Claim7.holds Tryd.pinned (.plain (OpenSpec.upto consoleLinesSpec)) consoleLinesUptoCard

/-- THE SECOND FORM's CARD OF 'tattinglaw43.ConsoleScripts'. -/
def consoleScriptsUptoCard : Claim7 := { stood := { row := consoleScriptsUptoRow, standIns := [], harness := (true, "2c9b0e26af058aa695c4d2c6e0a038ebbaf132d99a3032fa5e261175b2892072"), looks := true }, kinds := [], alts := [], laidByText := true, laidKinds := [.data, .data, .data, .data, .sentinel, .sentinel, .pinned], laidTests := true, laidLooks := .later }
def ConsoleScriptsUptoCardSaid : Prop := Claim7.holds Tryd.pinned (.plain (OpenSpec.upto consoleScriptsSpec)) consoleScriptsUptoCard
end Rows
end Go.Proofs.YtgeaebcchjmmjaaDoor
