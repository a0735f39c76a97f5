/-
  DERIVED. GIVEN WITH THE SEED: THE CARDS: each row of YtlijpnglocgldaaDoorRows.lean that lists a variable, with what it lists TIED to the program's text (the seventh form; the later family's looks); each row that meets fmt, with fmt's text TOLD by the authors' own Lean function (tested against real Go, not proved from fmt's source: count such statements apart). THE CARD IS WHAT COUNTS. Prove the row's statement (the work); the ties are given (YtlijpnglocgldaaDoorTie.lean); close each card by the builder's one call (the guide's Derived/Test/ToyasCard.lean, 'card_holds'). Laid BY PROGRAM, IN A SANDBOX (cutbox-door.mjs). By AI agents, Wed Nov 11 2026. No macro, syntax, notation, axiom, sorry.
-/
import Derived.Test.YtlijpnglocgldaaDoorRows
import GoSem.ClaimSeven
namespace Go.Proofs.YtlijpnglocgldaaDoor
namespace Rows

/-- THE TIED CARD OF 'laws.FnExactRecordText'. -/
def fnExactRecordTextCard : Claim7 := { stood := { row := fnExactRecordTextRow, standIns := [], harness := (true, "0eda7ca9ddd7dd821a6d17258a33dc6ebc3cf794d11a53c0ea9d56064f1b780f"), looks := false }, kinds := [], alts := [], laidByText := true, laidKinds := [.data, .data, .data], laidTests := true, laidLooks := .later }
def FnExactRecordTextCardSaid : Prop := Claim7.holds Tryd.pinned (.plain (OpenSpec.ofChange fnExactRecordTextSpec)) fnExactRecordTextCard

/-- THE TIED CARD OF 'laws.FnExactRecordOf'. -/
def fnExactRecordOfCard : Claim7 := { stood := { row := fnExactRecordOfRow, standIns := [], harness := (true, "0eda7ca9ddd7dd821a6d17258a33dc6ebc3cf794d11a53c0ea9d56064f1b780f"), looks := false }, kinds := [], alts := [], laidByText := true, laidKinds := [.data, .pinned], laidTests := true, laidLooks := .later }
def FnExactRecordOfCardSaid : Prop := Claim7.holds Tryd.pinned (.plain (OpenSpec.ofChange fnExactRecordOfSpec)) fnExactRecordOfCard

/-- THE TIED CARD OF 'laws.FnRecordOfBlank'. -/
def fnRecordOfBlankCard : Claim7 := { stood := { row := fnRecordOfBlankRow, standIns := [], harness := (true, "0eda7ca9ddd7dd821a6d17258a33dc6ebc3cf794d11a53c0ea9d56064f1b780f"), looks := false }, kinds := [], alts := [], laidByText := true, laidKinds := [.data, .pinned], laidTests := true, laidLooks := .later }
def FnRecordOfBlankCardSaid : Prop := Claim7.holds Tryd.pinned (.plain (OpenSpec.ofChange fnRecordOfBlankSpec)) fnRecordOfBlankCard

/-- THE TIED CARD OF 'laws.FnRecordText'. -/
def fnRecordTextCard : Claim7 := { stood := { row := fnRecordTextRow, standIns := [], harness := (true, "0eda7ca9ddd7dd821a6d17258a33dc6ebc3cf794d11a53c0ea9d56064f1b780f"), looks := false }, kinds := [], alts := [], laidByText := true, laidKinds := [.data, .data, .data, .data, .pinned], laidTests := true, laidLooks := .later }
def FnRecordTextCardSaid : Prop := Claim7.holds Tryd.pinned (.plain (OpenSpec.ofChange fnRecordTextSpec)) fnRecordTextCard

/-- THE TIED CARD OF 'laws.FnRecordOf'. -/
def fnRecordOfCard : Claim7 := { stood := { row := fnRecordOfRow, standIns := [], harness := (true, "0eda7ca9ddd7dd821a6d17258a33dc6ebc3cf794d11a53c0ea9d56064f1b780f"), looks := false }, kinds := [], alts := [], laidByText := true, laidKinds := [.data, .data, .data, .data, .pinned], laidTests := true, laidLooks := .later }
def FnRecordOfCardSaid : Prop := Claim7.holds Tryd.pinned (.plain (OpenSpec.ofChange fnRecordOfSpec)) fnRecordOfCard

/-- THE SECOND FORM's CARD OF 'laws.FnExactRecordText'. -/
def fnExactRecordTextUptoCard : Claim7 := { stood := { row := fnExactRecordTextUptoRow, standIns := [], harness := (true, "0eda7ca9ddd7dd821a6d17258a33dc6ebc3cf794d11a53c0ea9d56064f1b780f"), looks := false }, kinds := [], alts := [], laidByText := true, laidKinds := [.data, .data, .data], laidTests := true, laidLooks := .later }
def FnExactRecordTextUptoCardSaid : Prop := Claim7.holds Tryd.pinned (.plain (OpenSpec.upto fnExactRecordTextSpec)) fnExactRecordTextUptoCard

/-- THE SECOND FORM's CARD OF 'laws.FnExactRecordOf'. -/
def fnExactRecordOfUptoCard : Claim7 := { stood := { row := fnExactRecordOfUptoRow, standIns := [], harness := (true, "0eda7ca9ddd7dd821a6d17258a33dc6ebc3cf794d11a53c0ea9d56064f1b780f"), looks := false }, kinds := [], alts := [], laidByText := true, laidKinds := [.data, .pinned], laidTests := true, laidLooks := .later }
def FnExactRecordOfUptoCardSaid : Prop := Claim7.holds Tryd.pinned (.plain (OpenSpec.upto fnExactRecordOfSpec)) fnExactRecordOfUptoCard

/-- THE SECOND FORM's CARD OF 'laws.FnRecordOfBlank'. -/
def fnRecordOfBlankUptoCard : Claim7 := { stood := { row := fnRecordOfBlankUptoRow, standIns := [], harness := (true, "0eda7ca9ddd7dd821a6d17258a33dc6ebc3cf794d11a53c0ea9d56064f1b780f"), looks := false }, kinds := [], alts := [], laidByText := true, laidKinds := [.data, .pinned], laidTests := true, laidLooks := .later }
def FnRecordOfBlankUptoCardSaid : Prop := Claim7.holds Tryd.pinned (.plain (OpenSpec.upto fnRecordOfBlankSpec)) fnRecordOfBlankUptoCard

/-- THE SECOND FORM's CARD OF 'laws.FnRecordText'. -/
def fnRecordTextUptoCard : Claim7 := { stood := { row := fnRecordTextUptoRow, standIns := [], harness := (true, "0eda7ca9ddd7dd821a6d17258a33dc6ebc3cf794d11a53c0ea9d56064f1b780f"), looks := false }, kinds := [], alts := [], laidByText := true, laidKinds := [.data, .data, .data, .data, .pinned], laidTests := true, laidLooks := .later }
def FnRecordTextUptoCardSaid : Prop := Claim7.holds Tryd.pinned (.plain (OpenSpec.upto fnRecordTextSpec)) fnRecordTextUptoCard

/-- THE SECOND FORM's CARD OF 'laws.FnRecordOf'. -/
def fnRecordOfUptoCard : Claim7 := { stood := { row := fnRecordOfUptoRow, standIns := [], harness := (true, "0eda7ca9ddd7dd821a6d17258a33dc6ebc3cf794d11a53c0ea9d56064f1b780f"), looks := false }, kinds := [], alts := [], laidByText := true, laidKinds := [.data, .data, .data, .data, .pinned], laidTests := true, laidLooks := .later }
def FnRecordOfUptoCardSaid : Prop := Claim7.holds Tryd.pinned (.plain (OpenSpec.upto fnRecordOfSpec)) fnRecordOfUptoCard
end Rows
end Go.Proofs.YtlijpnglocgldaaDoor
