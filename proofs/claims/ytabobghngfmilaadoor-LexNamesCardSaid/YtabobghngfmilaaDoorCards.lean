/-
  DERIVED. GIVEN WITH THE SEED: THE CARDS: each row of YtabobghngfmilaaDoorRows.lean that lists a variable, with what it lists TIED to the program's text (the seventh form; the later family's looks); each row that meets fmt, with fmt's text TOLD by the authors' own Lean function (tested against real Go, not proved from fmt's source: count such statements apart). THE CARD IS WHAT COUNTS. Prove the row's statement (the work); the ties are given (YtabobghngfmilaaDoorTie.lean); close each card by the builder's one call (the guide's Derived/Test/ToyasCard.lean, 'card_holds'). Laid BY PROGRAM, IN A SANDBOX (cutbox-door.mjs). By AI agents, Wed Nov 11 2026. No macro, syntax, notation, axiom, sorry.
-/
import Derived.Test.YtabobghngfmilaaDoorRows
import GoSem.ClaimSeven
namespace Go.Proofs.YtabobghngfmilaaDoor
namespace Rows

/-- THE TIED CARD OF 'columbarylaw04.LexForms'. -/
def lexFormsCard : Claim7 := { stood := { row := lexFormsRow, standIns := [], harness := (true, "c45648fbc84bcca87bb8c1cf1f89e899ee794ff40b6355ea2a6ccf58af5f1a2f"), looks := true }, kinds := [], alts := [], laidByText := true, laidKinds := [.data, .data, .data, .sentinel, .sentinel], laidTests := true, laidLooks := .later }
def LexFormsCardSaid : Prop := Claim7.holds Tryd.pinned (.plain (OpenSpec.ofChange lexFormsSpec)) lexFormsCard

/-- THE TIED CARD OF 'columbarylaw04.LexNames'. -/
def lexNamesCard : Claim7 := { stood := { row := lexNamesRow, standIns := [], harness := (true, "c45648fbc84bcca87bb8c1cf1f89e899ee794ff40b6355ea2a6ccf58af5f1a2f"), looks := true }, kinds := [], alts := [], laidByText := true, laidKinds := [.data, .data, .data, .sentinel, .sentinel, .listed, .data], laidTests := true, laidLooks := .later }
def LexNamesCardSaid : Prop := Claim7.holds Tryd.pinned (.plain (OpenSpec.ofChange lexNamesSpec)) lexNamesCard

/-- THE TIED CARD OF 'columbarylaw05.PatMany'. -/
def patManyCard : Claim7 := { stood := { row := patManyRow, standIns := [], harness := (true, "c45648fbc84bcca87bb8c1cf1f89e899ee794ff40b6355ea2a6ccf58af5f1a2f"), looks := true }, kinds := [], alts := [], laidByText := true, laidKinds := [.data, .data, .data, .sentinel, .sentinel, .listed, .data], laidTests := true, laidLooks := .later }
def PatManyCardSaid : Prop := Claim7.holds Tryd.pinned (.plain (OpenSpec.ofChange patManySpec)) patManyCard

/-- THE TIED CARD OF 'columbarylaw05.PatChecks'. -/
def patChecksCard : Claim7 := { stood := { row := patChecksRow, standIns := [], harness := (true, "c45648fbc84bcca87bb8c1cf1f89e899ee794ff40b6355ea2a6ccf58af5f1a2f"), looks := true }, kinds := [], alts := [], laidByText := true, laidKinds := [.data, .data, .data, .sentinel, .sentinel, .listed, .data], laidTests := true, laidLooks := .later }
def PatChecksCardSaid : Prop := Claim7.holds Tryd.pinned (.plain (OpenSpec.ofChange patChecksSpec)) patChecksCard

/-- THE TIED CARD OF 'columbarylaw05.PatForms'. -/
def patFormsCard : Claim7 := { stood := { row := patFormsRow, standIns := [], harness := (true, "c45648fbc84bcca87bb8c1cf1f89e899ee794ff40b6355ea2a6ccf58af5f1a2f"), looks := true }, kinds := [], alts := [], laidByText := true, laidKinds := [.data, .data, .data, .sentinel, .sentinel, .listed, .data], laidTests := true, laidLooks := .later }
def PatFormsCardSaid : Prop := Claim7.holds Tryd.pinned (.plain (OpenSpec.ofChange patFormsSpec)) patFormsCard

/-- THE SECOND FORM's CARD OF 'columbarylaw04.LexForms'. -/
def lexFormsUptoCard : Claim7 := { stood := { row := lexFormsUptoRow, standIns := [], harness := (true, "c45648fbc84bcca87bb8c1cf1f89e899ee794ff40b6355ea2a6ccf58af5f1a2f"), looks := true }, kinds := [], alts := [], laidByText := true, laidKinds := [.data, .data, .data, .sentinel, .sentinel], laidTests := true, laidLooks := .later }
def LexFormsUptoCardSaid : Prop := Claim7.holds Tryd.pinned (.plain (OpenSpec.upto lexFormsSpec)) lexFormsUptoCard

/-- THE SECOND FORM's CARD OF 'columbarylaw04.LexNames'. -/
def lexNamesUptoCard : Claim7 := { stood := { row := lexNamesUptoRow, standIns := [], harness := (true, "c45648fbc84bcca87bb8c1cf1f89e899ee794ff40b6355ea2a6ccf58af5f1a2f"), looks := true }, kinds := [], alts := [], laidByText := true, laidKinds := [.data, .data, .data, .sentinel, .sentinel, .listed, .data], laidTests := true, laidLooks := .later }
def LexNamesUptoCardSaid : Prop := Claim7.holds Tryd.pinned (.plain (OpenSpec.upto lexNamesSpec)) lexNamesUptoCard

/-- THE SECOND FORM's CARD OF 'columbarylaw05.PatMany'. -/
def patManyUptoCard : Claim7 := { stood := { row := patManyUptoRow, standIns := [], harness := (true, "c45648fbc84bcca87bb8c1cf1f89e899ee794ff40b6355ea2a6ccf58af5f1a2f"), looks := true }, kinds := [], alts := [], laidByText := true, laidKinds := [.data, .data, .data, .sentinel, .sentinel, .listed, .data], laidTests := true, laidLooks := .later }
def PatManyUptoCardSaid : Prop := Claim7.holds Tryd.pinned (.plain (OpenSpec.upto patManySpec)) patManyUptoCard

/-- THE SECOND FORM's CARD OF 'columbarylaw05.PatChecks'. -/
def patChecksUptoCard : Claim7 := { stood := { row := patChecksUptoRow, standIns := [], harness := (true, "c45648fbc84bcca87bb8c1cf1f89e899ee794ff40b6355ea2a6ccf58af5f1a2f"), looks := true }, kinds := [], alts := [], laidByText := true, laidKinds := [.data, .data, .data, .sentinel, .sentinel, .listed, .data], laidTests := true, laidLooks := .later }
def PatChecksUptoCardSaid : Prop := Claim7.holds Tryd.pinned (.plain (OpenSpec.upto patChecksSpec)) patChecksUptoCard

/-- THE SECOND FORM's CARD OF 'columbarylaw05.PatForms'. -/
def patFormsUptoCard : Claim7 := { stood := { row := patFormsUptoRow, standIns := [], harness := (true, "c45648fbc84bcca87bb8c1cf1f89e899ee794ff40b6355ea2a6ccf58af5f1a2f"), looks := true }, kinds := [], alts := [], laidByText := true, laidKinds := [.data, .data, .data, .sentinel, .sentinel, .listed, .data], laidTests := true, laidLooks := .later }
def PatFormsUptoCardSaid : Prop := Claim7.holds Tryd.pinned (.plain (OpenSpec.upto patFormsSpec)) patFormsUptoCard
end Rows
end Go.Proofs.YtabobghngfmilaaDoor
