/-
  DERIVED. GIVEN WITH THE SEED: THE CARDS: each row of YtifejekkbipakaaDoorRows.lean that lists a variable, with what it lists TIED to the program's text (the seventh form; the later family's looks); each row that meets fmt, with fmt's text TOLD by the authors' own Lean function (tested against real Go, not proved from fmt's source: count such statements apart). THE CARD IS WHAT COUNTS. Prove the row's statement (the work); the ties are given (YtifejekkbipakaaDoorTie.lean); close each card by the builder's one call (the guide's Derived/Test/ToyasCard.lean, 'card_holds'). Laid BY PROGRAM, IN A SANDBOX (cutbox-door.mjs). By AI agents, Wed Nov 11 2026. No macro, syntax, notation, axiom, sorry.
-/
import Derived.Test.YtifejekkbipakaaDoorRows
import GoSem.ClaimSeven
namespace Go.Proofs.YtifejekkbipakaaDoor
namespace Rows

/-- THE TIED CARD OF 'laws.FnLogText'. -/
def fnLogTextCard : Claim7 := { stood := { row := fnLogTextRow, standIns := [], harness := (true, "225645e2d99f4dfe6e73034351848884774c45242d3f5c36f2ea494b29cc6eab"), looks := false }, kinds := [], alts := [], laidByText := true, laidKinds := [.data, .data, .data], laidTests := true, laidLooks := .later }
def FnLogTextCardSaid : Prop := Claim7.holds Tryd.pinned (.plain (OpenSpec.ofChange fnLogTextSpec)) fnLogTextCard

/-- THE TIED CARD OF 'laws.FnLogTextRecords'. -/
def fnLogTextRecordsCard : Claim7 := { stood := { row := fnLogTextRecordsRow, standIns := [], harness := (true, "225645e2d99f4dfe6e73034351848884774c45242d3f5c36f2ea494b29cc6eab"), looks := false }, kinds := [], alts := [], laidByText := true, laidKinds := [.data, .data, .data], laidTests := true, laidLooks := .later }
def FnLogTextRecordsCardSaid : Prop := Claim7.holds Tryd.pinned (.plain (OpenSpec.ofChange fnLogTextRecordsSpec)) fnLogTextRecordsCard

/-- THE TIED CARD OF 'laws.FnExactLogText'. -/
def fnExactLogTextCard : Claim7 := { stood := { row := fnExactLogTextRow, standIns := [], harness := (true, "225645e2d99f4dfe6e73034351848884774c45242d3f5c36f2ea494b29cc6eab"), looks := false }, kinds := [], alts := [], laidByText := true, laidKinds := [.data, .data, .data], laidTests := true, laidLooks := .later }
def FnExactLogTextCardSaid : Prop := Claim7.holds Tryd.pinned (.plain (OpenSpec.ofChange fnExactLogTextSpec)) fnExactLogTextCard

/-- THE SECOND FORM's CARD OF 'laws.FnLogText'. -/
def fnLogTextUptoCard : Claim7 := { stood := { row := fnLogTextUptoRow, standIns := [], harness := (true, "225645e2d99f4dfe6e73034351848884774c45242d3f5c36f2ea494b29cc6eab"), looks := false }, kinds := [], alts := [], laidByText := true, laidKinds := [.data, .data, .data], laidTests := true, laidLooks := .later }
def FnLogTextUptoCardSaid : Prop := Claim7.holds Tryd.pinned (.plain (OpenSpec.upto fnLogTextSpec)) fnLogTextUptoCard

/-- THE SECOND FORM's CARD OF 'laws.FnLogTextRecords'. -/
def fnLogTextRecordsUptoCard : Claim7 := { stood := { row := fnLogTextRecordsUptoRow, standIns := [], harness := (true, "225645e2d99f4dfe6e73034351848884774c45242d3f5c36f2ea494b29cc6eab"), looks := false }, kinds := [], alts := [], laidByText := true, laidKinds := [.data, .data, .data], laidTests := true, laidLooks := .later }
def FnLogTextRecordsUptoCardSaid : Prop := Claim7.holds Tryd.pinned (.plain (OpenSpec.upto fnLogTextRecordsSpec)) fnLogTextRecordsUptoCard

/-- THE SECOND FORM's CARD OF 'laws.FnExactLogText'. -/
def fnExactLogTextUptoCard : Claim7 := { stood := { row := fnExactLogTextUptoRow, standIns := [], harness := (true, "225645e2d99f4dfe6e73034351848884774c45242d3f5c36f2ea494b29cc6eab"), looks := false }, kinds := [], alts := [], laidByText := true, laidKinds := [.data, .data, .data], laidTests := true, laidLooks := .later }
def FnExactLogTextUptoCardSaid : Prop := Claim7.holds Tryd.pinned (.plain (OpenSpec.upto fnExactLogTextSpec)) fnExactLogTextUptoCard
end Rows
end Go.Proofs.YtifejekkbipakaaDoor
