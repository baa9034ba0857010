/-
  DERIVED. GIVEN WITH THE SEED: THE CARDS: each row of YtiknpjblmihmkaaDoorRows.lean that lists a variable, with what it lists TIED to the program's text (the seventh form; the later family's looks); each row that meets fmt, with fmt's text TOLD by the authors' own Lean function (tested against real Go, not proved from fmt's source: count such statements apart). THE CARD IS WHAT COUNTS. Prove the row's statement (the work); the ties are given (YtiknpjblmihmkaaDoorTie.lean); close each card by the builder's one call (the guide's Derived/Test/ToyasCard.lean, 'card_holds'). Laid BY PROGRAM, IN A SANDBOX (cutbox-door.mjs). By AI agents, Wed Nov 11 2026. No macro, syntax, notation, axiom, sorry.
-/
import Derived.Test.YtiknpjblmihmkaaDoorRows
import GoSem.ClaimSeven
namespace Go.Proofs.YtiknpjblmihmkaaDoor
namespace Rows

/-- THE TIED CARD OF 'interpreterlaw01.NumOnly'. -/
def numOnlyCard : Claim7 := { stood := { row := numOnlyRow, standIns := [], harness := (true, "40389b2eb7f87f96a25da4e5f9522961b3ff235e978f7a7d929a843fb179a07b"), looks := true }, kinds := [], alts := [], laidByText := true, laidKinds := [.handle], laidTests := true, laidLooks := .later }
def NumOnlyCardSaid : Prop := Claim7.holds Tryd.pinned (.plain (OpenSpec.ofChange numOnlySpec)) numOnlyCard

/-- THE TIED CARD OF 'interpreterlaw01.NumWrites'. -/
def numWritesCard : Claim7 := { stood := { row := numWritesRow, standIns := [], harness := (true, "40389b2eb7f87f96a25da4e5f9522961b3ff235e978f7a7d929a843fb179a07b"), looks := true }, kinds := [], alts := [], laidByText := true, laidKinds := [.handle], laidTests := true, laidLooks := .later }
def NumWritesCardSaid : Prop := Claim7.holds Tryd.pinned (.plain (OpenSpec.ofChange numWritesSpec)) numWritesCard

/-- THE TIED CARD OF 'interpreterlaw01.NumReads'. -/
def numReadsCard : Claim7 := { stood := { row := numReadsRow, standIns := [], harness := (true, "40389b2eb7f87f96a25da4e5f9522961b3ff235e978f7a7d929a843fb179a07b"), looks := true }, kinds := [], alts := [], laidByText := true, laidKinds := [.handle], laidTests := true, laidLooks := .later }
def NumReadsCardSaid : Prop := Claim7.holds Tryd.pinned (.plain (OpenSpec.ofChange numReadsSpec)) numReadsCard

/-- THE TIED CARD OF 'interpreterlaw01.NumBack'. -/
def numBackCard : Claim7 := { stood := { row := numBackRow, standIns := [], harness := (true, "40389b2eb7f87f96a25da4e5f9522961b3ff235e978f7a7d929a843fb179a07b"), looks := true }, kinds := [], alts := [], laidByText := true, laidKinds := [.handle], laidTests := true, laidLooks := .later }
def NumBackCardSaid : Prop := Claim7.holds Tryd.pinned (.plain (OpenSpec.ofChange numBackSpec)) numBackCard

/-- THE TIED CARD OF 'interpreterlaw01.NumNobody'. -/
def numNobodyCard : Claim7 := { stood := { row := numNobodyRow, standIns := [], harness := (true, "40389b2eb7f87f96a25da4e5f9522961b3ff235e978f7a7d929a843fb179a07b"), looks := true }, kinds := [], alts := [], laidByText := true, laidKinds := [.data, .data, .data, .handle], laidTests := true, laidLooks := .later }
def NumNobodyCardSaid : Prop := Claim7.holds Tryd.pinned (.plain (OpenSpec.ofChange numNobodySpec)) numNobodyCard

/-- THE TIED CARD OF 'interpreterlaw01.NumStays'. -/
def numStaysCard : Claim7 := { stood := { row := numStaysRow, standIns := [], harness := (true, "40389b2eb7f87f96a25da4e5f9522961b3ff235e978f7a7d929a843fb179a07b"), looks := true }, kinds := [], alts := [], laidByText := true, laidKinds := [.handle], laidTests := true, laidLooks := .later }
def NumStaysCardSaid : Prop := Claim7.holds Tryd.pinned (.plain (OpenSpec.ofChange numStaysSpec)) numStaysCard

/-- THE TIED CARD OF 'interpreterlaw01.NumKnown'. -/
def numKnownCard : Claim7 := { stood := { row := numKnownRow, standIns := [], harness := (true, "40389b2eb7f87f96a25da4e5f9522961b3ff235e978f7a7d929a843fb179a07b"), looks := true }, kinds := [], alts := [], laidByText := true, laidKinds := [.data, .data, .data, .handle], laidTests := true, laidLooks := .later }
def NumKnownCardSaid : Prop := Claim7.holds Tryd.pinned (.plain (OpenSpec.ofChange numKnownSpec)) numKnownCard

/-- THE SECOND FORM's CARD OF 'interpreterlaw01.NumOnly'. -/
def numOnlyUptoCard : Claim7 := { stood := { row := numOnlyUptoRow, standIns := [], harness := (true, "40389b2eb7f87f96a25da4e5f9522961b3ff235e978f7a7d929a843fb179a07b"), looks := true }, kinds := [], alts := [], laidByText := true, laidKinds := [.handle], laidTests := true, laidLooks := .later }
def NumOnlyUptoCardSaid : Prop := Claim7.holds Tryd.pinned (.plain (OpenSpec.upto numOnlySpec)) numOnlyUptoCard

/-- THE SECOND FORM's CARD OF 'interpreterlaw01.NumWrites'. -/
def numWritesUptoCard : Claim7 := { stood := { row := numWritesUptoRow, standIns := [], harness := (true, "40389b2eb7f87f96a25da4e5f9522961b3ff235e978f7a7d929a843fb179a07b"), looks := true }, kinds := [], alts := [], laidByText := true, laidKinds := [.handle], laidTests := true, laidLooks := .later }
def NumWritesUptoCardSaid : Prop := Claim7.holds Tryd.pinned (.plain (OpenSpec.upto numWritesSpec)) numWritesUptoCard

/-- THE SECOND FORM's CARD OF 'interpreterlaw01.NumReads'. -/
def numReadsUptoCard : Claim7 := { stood := { row := numReadsUptoRow, standIns := [], harness := (true, "40389b2eb7f87f96a25da4e5f9522961b3ff235e978f7a7d929a843fb179a07b"), looks := true }, kinds := [], alts := [], laidByText := true, laidKinds := [.handle], laidTests := true, laidLooks := .later }
def NumReadsUptoCardSaid : Prop := Claim7.holds Tryd.pinned (.plain (OpenSpec.upto numReadsSpec)) numReadsUptoCard

/-- THE SECOND FORM's CARD OF 'interpreterlaw01.NumBack'. -/
def numBackUptoCard : Claim7 := { stood := { row := numBackUptoRow, standIns := [], harness := (true, "40389b2eb7f87f96a25da4e5f9522961b3ff235e978f7a7d929a843fb179a07b"), looks := true }, kinds := [], alts := [], laidByText := true, laidKinds := [.handle], laidTests := true, laidLooks := .later }
def NumBackUptoCardSaid : Prop := Claim7.holds Tryd.pinned (.plain (OpenSpec.upto numBackSpec)) numBackUptoCard

/-- THE SECOND FORM's CARD OF 'interpreterlaw01.NumNobody'. -/
def numNobodyUptoCard : Claim7 := { stood := { row := numNobodyUptoRow, standIns := [], harness := (true, "40389b2eb7f87f96a25da4e5f9522961b3ff235e978f7a7d929a843fb179a07b"), looks := true }, kinds := [], alts := [], laidByText := true, laidKinds := [.data, .data, .data, .handle], laidTests := true, laidLooks := .later }
def NumNobodyUptoCardSaid : Prop := Claim7.holds Tryd.pinned (.plain (OpenSpec.upto numNobodySpec)) numNobodyUptoCard

/-- THE SECOND FORM's CARD OF 'interpreterlaw01.NumStays'. -/
def numStaysUptoCard : Claim7 := { stood := { row := numStaysUptoRow, standIns := [], harness := (true, "40389b2eb7f87f96a25da4e5f9522961b3ff235e978f7a7d929a843fb179a07b"), looks := true }, kinds := [], alts := [], laidByText := true, laidKinds := [.handle], laidTests := true, laidLooks := .later }
def NumStaysUptoCardSaid : Prop := Claim7.holds Tryd.pinned (.plain (OpenSpec.upto numStaysSpec)) numStaysUptoCard

/-- THE SECOND FORM's CARD OF 'interpreterlaw01.NumKnown'. -/
def numKnownUptoCard : Claim7 := { stood := { row := numKnownUptoRow, standIns := [], harness := (true, "40389b2eb7f87f96a25da4e5f9522961b3ff235e978f7a7d929a843fb179a07b"), looks := true }, kinds := [], alts := [], laidByText := true, laidKinds := [.data, .data, .data, .handle], laidTests := true, laidLooks := .later }
def NumKnownUptoCardSaid : Prop := Claim7.holds Tryd.pinned (.plain (OpenSpec.upto numKnownSpec)) numKnownUptoCard
end Rows
end Go.Proofs.YtiknpjblmihmkaaDoor
