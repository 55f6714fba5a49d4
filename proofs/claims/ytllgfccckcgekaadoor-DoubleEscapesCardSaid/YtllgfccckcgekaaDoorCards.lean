/-
  DERIVED. GIVEN WITH THE SEED: THE CARDS: each row of YtllgfccckcgekaaDoorRows.lean that lists a variable, with what it lists TIED to the program's text (the seventh form; the later family's looks); each row that meets fmt, with fmt's text TOLD by the authors' own Lean function (tested against real Go, not proved from fmt's source: count such statements apart). THE CARD IS WHAT COUNTS. Prove the row's statement (the work); the ties are given (YtllgfccckcgekaaDoorTie.lean); close each card by the builder's one call (the guide's Derived/Test/ToyasCard.lean, 'card_holds'). Laid BY PROGRAM, IN A SANDBOX (cutbox-door.mjs). By AI agents, Wed Nov 11 2026. No macro, syntax, notation, axiom, sorry.
-/
import Derived.Test.YtllgfccckcgekaaDoorRows
import GoSem.ClaimSeven
namespace Go.Proofs.YtllgfccckcgekaaDoor
namespace Rows

/-- THE TIED CARD OF 'scholiumlaw20.PathPrints'. -/
def pathPrintsCard : Claim7 := { stood := { row := pathPrintsRow, standIns := [], harness := (true, "b542d5111547ef911870ec488479eb32e96578ff7de6d4b3262a4d89ea34c423"), looks := true }, kinds := [], alts := [], laidByText := true, laidKinds := [.data, .data, .data, .data, .sentinel, .sentinel, .pinned], laidTests := true, laidLooks := .later }
def PathPrintsCardSaid : Prop := Claim7.holds Tryd.pinned (.plain (OpenSpec.ofChange pathPrintsSpec)) pathPrintsCard

/-- THE TIED CARD OF 'scholiumlaw11.TailRests'. -/
def tailRestsCard : Claim7 := { stood := { row := tailRestsRow, standIns := [], harness := (true, "b542d5111547ef911870ec488479eb32e96578ff7de6d4b3262a4d89ea34c423"), looks := true }, kinds := [], alts := [], laidByText := true, laidKinds := [.data, .pinned], laidTests := true, laidLooks := .later }
def TailRestsCardSaid : Prop := Claim7.holds Tryd.pinned (.plain (OpenSpec.ofChange tailRestsSpec)) tailRestsCard

/-- THE TIED CARD OF 'scholiumlaw11.TailTells'. -/
def tailTellsCard : Claim7 := { stood := { row := tailTellsRow, standIns := [], harness := (true, "b542d5111547ef911870ec488479eb32e96578ff7de6d4b3262a4d89ea34c423"), looks := true }, kinds := [], alts := [], laidByText := true, laidKinds := [.data, .pinned], laidTests := true, laidLooks := .later }
def TailTellsCardSaid : Prop := Claim7.holds Tryd.pinned (.plain (OpenSpec.ofChange tailTellsSpec)) tailTellsCard

/-- THE TIED CARD OF 'scholiumlaw20.PathBack'. -/
def pathBackCard : Claim7 := { stood := { row := pathBackRow, standIns := [], harness := (true, "b542d5111547ef911870ec488479eb32e96578ff7de6d4b3262a4d89ea34c423"), looks := true }, kinds := [], alts := [], laidByText := true, laidKinds := [.data, .data, .data, .data, .sentinel, .sentinel, .pinned], laidTests := true, laidLooks := .later }
def PathBackCardSaid : Prop := Claim7.holds Tryd.pinned (.plain (OpenSpec.ofChange pathBackSpec)) pathBackCard

/-- THE TIED CARD OF 'scholiumlaw10.PropsForms'. -/
def propsFormsCard : Claim7 := { stood := { row := propsFormsRow, standIns := [], harness := (true, "b542d5111547ef911870ec488479eb32e96578ff7de6d4b3262a4d89ea34c423"), looks := true }, kinds := [], alts := [], laidByText := true, laidKinds := [.data, .pinned], laidTests := true, laidLooks := .later }
def PropsFormsCardSaid : Prop := Claim7.holds Tryd.pinned (.plain (OpenSpec.ofChange propsFormsSpec)) propsFormsCard

/-- THE TIED CARD OF 'scholiumlaw18.IsoForms'. -/
def isoFormsCard : Claim7 := { stood := { row := isoFormsRow, standIns := [], harness := (true, "b542d5111547ef911870ec488479eb32e96578ff7de6d4b3262a4d89ea34c423"), looks := true }, kinds := [], alts := [], laidByText := true, laidKinds := [.data, .pinned], laidTests := true, laidLooks := .later }
def IsoFormsCardSaid : Prop := Claim7.holds Tryd.pinned (.plain (OpenSpec.ofChange isoFormsSpec)) isoFormsCard

/-- THE TIED CARD OF 'scholiumlaw18.IsoSame'. -/
def isoSameCard : Claim7 := { stood := { row := isoSameRow, standIns := [], harness := (true, "b542d5111547ef911870ec488479eb32e96578ff7de6d4b3262a4d89ea34c423"), looks := true }, kinds := [], alts := [], laidByText := true, laidKinds := [.data, .pinned], laidTests := true, laidLooks := .later }
def IsoSameCardSaid : Prop := Claim7.holds Tryd.pinned (.plain (OpenSpec.ofChange isoSameSpec)) isoSameCard

/-- THE TIED CARD OF 'scholiumlaw18.IsoTurns'. -/
def isoTurnsCard : Claim7 := { stood := { row := isoTurnsRow, standIns := [], harness := (true, "b542d5111547ef911870ec488479eb32e96578ff7de6d4b3262a4d89ea34c423"), looks := true }, kinds := [], alts := [], laidByText := true, laidKinds := [.data, .pinned], laidTests := true, laidLooks := .later }
def IsoTurnsCardSaid : Prop := Claim7.holds Tryd.pinned (.plain (OpenSpec.ofChange isoTurnsSpec)) isoTurnsCard

/-- THE TIED CARD OF 'scholiumlaw06.DoubleEscapes'. -/
def doubleEscapesCard : Claim7 := { stood := { row := doubleEscapesRow, standIns := [], harness := (true, "b542d5111547ef911870ec488479eb32e96578ff7de6d4b3262a4d89ea34c423"), looks := true }, kinds := [], alts := [], laidByText := true, laidKinds := [.data, .pinned], laidTests := true, laidLooks := .later }
def DoubleEscapesCardSaid : Prop := Claim7.holds Tryd.pinned (.plain (OpenSpec.ofChange doubleEscapesSpec)) doubleEscapesCard

/-- THE TIED CARD OF 'scholiumlaw18.IsoApart'. -/
def isoApartCard : Claim7 := { stood := { row := isoApartRow, standIns := [], harness := (true, "b542d5111547ef911870ec488479eb32e96578ff7de6d4b3262a4d89ea34c423"), looks := true }, kinds := [], alts := [], laidByText := true, laidKinds := [.data, .pinned], laidTests := true, laidLooks := .later }
def IsoApartCardSaid : Prop := Claim7.holds Tryd.pinned (.plain (OpenSpec.ofChange isoApartSpec)) isoApartCard

/-- THE TIED CARD OF 'scholiumlaw18.IsoTells'. -/
def isoTellsCard : Claim7 := { stood := { row := isoTellsRow, standIns := [], harness := (true, "b542d5111547ef911870ec488479eb32e96578ff7de6d4b3262a4d89ea34c423"), looks := true }, kinds := [], alts := [], laidByText := true, laidKinds := [.data, .pinned], laidTests := true, laidLooks := .later }
def IsoTellsCardSaid : Prop := Claim7.holds Tryd.pinned (.plain (OpenSpec.ofChange isoTellsSpec)) isoTellsCard

/-- THE TIED CARD OF 'scholiumlaw18.IsoShares'. -/
def isoSharesCard : Claim7 := { stood := { row := isoSharesRow, standIns := [], harness := (true, "b542d5111547ef911870ec488479eb32e96578ff7de6d4b3262a4d89ea34c423"), looks := true }, kinds := [], alts := [], laidByText := true, laidKinds := [.data, .pinned], laidTests := true, laidLooks := .later }
def IsoSharesCardSaid : Prop := Claim7.holds Tryd.pinned (.plain (OpenSpec.ofChange isoSharesSpec)) isoSharesCard

/-- THE TIED CARD OF 'scholiumlaw20.PathForms'. -/
def pathFormsCard : Claim7 := { stood := { row := pathFormsRow, standIns := [], harness := (true, "b542d5111547ef911870ec488479eb32e96578ff7de6d4b3262a4d89ea34c423"), looks := true }, kinds := [], alts := [], laidByText := true, laidKinds := [.data, .data, .data, .sentinel, .sentinel], laidTests := true, laidLooks := .later }
def PathFormsCardSaid : Prop := Claim7.holds Tryd.pinned (.plain (OpenSpec.ofChange pathFormsSpec)) pathFormsCard

/-- THE TIED CARD OF 'scholiumlaw20.PathLong'. -/
def pathLongCard : Claim7 := { stood := { row := pathLongRow, standIns := [], harness := (true, "b542d5111547ef911870ec488479eb32e96578ff7de6d4b3262a4d89ea34c423"), looks := true }, kinds := [], alts := [], laidByText := true, laidKinds := [.data, .data, .data, .sentinel, .sentinel], laidTests := true, laidLooks := .later }
def PathLongCardSaid : Prop := Claim7.holds Tryd.pinned (.plain (OpenSpec.ofChange pathLongSpec)) pathLongCard

/-- THE TIED CARD OF 'scholiumlaw20.PathParses'. -/
def pathParsesCard : Claim7 := { stood := { row := pathParsesRow, standIns := [], harness := (true, "b542d5111547ef911870ec488479eb32e96578ff7de6d4b3262a4d89ea34c423"), looks := true }, kinds := [], alts := [], laidByText := true, laidKinds := [.data, .data, .data, .sentinel, .sentinel], laidTests := true, laidLooks := .later }
def PathParsesCardSaid : Prop := Claim7.holds Tryd.pinned (.plain (OpenSpec.ofChange pathParsesSpec)) pathParsesCard

/-- THE TIED CARD OF 'scholiumlaw20.PathJoins'. -/
def pathJoinsCard : Claim7 := { stood := { row := pathJoinsRow, standIns := [], harness := (true, "b542d5111547ef911870ec488479eb32e96578ff7de6d4b3262a4d89ea34c423"), looks := true }, kinds := [], alts := [], laidByText := true, laidKinds := [.data, .data, .data, .sentinel, .sentinel], laidTests := true, laidLooks := .later }
def PathJoinsCardSaid : Prop := Claim7.holds Tryd.pinned (.plain (OpenSpec.ofChange pathJoinsSpec)) pathJoinsCard

/-- THE SECOND FORM's CARD OF 'scholiumlaw20.PathPrints'. -/
def pathPrintsUptoCard : Claim7 := { stood := { row := pathPrintsUptoRow, standIns := [], harness := (true, "b542d5111547ef911870ec488479eb32e96578ff7de6d4b3262a4d89ea34c423"), looks := true }, kinds := [], alts := [], laidByText := true, laidKinds := [.data, .data, .data, .data, .sentinel, .sentinel, .pinned], laidTests := true, laidLooks := .later }
def PathPrintsUptoCardSaid : Prop := Claim7.holds Tryd.pinned (.plain (OpenSpec.upto pathPrintsSpec)) pathPrintsUptoCard

/-- THE SECOND FORM's CARD OF 'scholiumlaw11.TailRests'. -/
def tailRestsUptoCard : Claim7 := { stood := { row := tailRestsUptoRow, standIns := [], harness := (true, "b542d5111547ef911870ec488479eb32e96578ff7de6d4b3262a4d89ea34c423"), looks := true }, kinds := [], alts := [], laidByText := true, laidKinds := [.data, .pinned], laidTests := true, laidLooks := .later }
def TailRestsUptoCardSaid : Prop := Claim7.holds Tryd.pinned (.plain (OpenSpec.upto tailRestsSpec)) tailRestsUptoCard

/-- THE SECOND FORM's CARD OF 'scholiumlaw11.TailTells'. -/
def tailTellsUptoCard : Claim7 := { stood := { row := tailTellsUptoRow, standIns := [], harness := (true, "b542d5111547ef911870ec488479eb32e96578ff7de6d4b3262a4d89ea34c423"), looks := true }, kinds := [], alts := [], laidByText := true, laidKinds := [.data, .pinned], laidTests := true, laidLooks := .later }
def TailTellsUptoCardSaid : Prop := Claim7.holds Tryd.pinned (.plain (OpenSpec.upto tailTellsSpec)) tailTellsUptoCard

/-- THE SECOND FORM's CARD OF 'scholiumlaw20.PathBack'. -/
def pathBackUptoCard : Claim7 := { stood := { row := pathBackUptoRow, standIns := [], harness := (true, "b542d5111547ef911870ec488479eb32e96578ff7de6d4b3262a4d89ea34c423"), looks := true }, kinds := [], alts := [], laidByText := true, laidKinds := [.data, .data, .data, .data, .sentinel, .sentinel, .pinned], laidTests := true, laidLooks := .later }
def PathBackUptoCardSaid : Prop := Claim7.holds Tryd.pinned (.plain (OpenSpec.upto pathBackSpec)) pathBackUptoCard

/-- THE SECOND FORM's CARD OF 'scholiumlaw10.PropsForms'. -/
def propsFormsUptoCard : Claim7 := { stood := { row := propsFormsUptoRow, standIns := [], harness := (true, "b542d5111547ef911870ec488479eb32e96578ff7de6d4b3262a4d89ea34c423"), looks := true }, kinds := [], alts := [], laidByText := true, laidKinds := [.data, .pinned], laidTests := true, laidLooks := .later }
def PropsFormsUptoCardSaid : Prop := Claim7.holds Tryd.pinned (.plain (OpenSpec.upto propsFormsSpec)) propsFormsUptoCard

/-- THE SECOND FORM's CARD OF 'scholiumlaw18.IsoForms'. -/
def isoFormsUptoCard : Claim7 := { stood := { row := isoFormsUptoRow, standIns := [], harness := (true, "b542d5111547ef911870ec488479eb32e96578ff7de6d4b3262a4d89ea34c423"), looks := true }, kinds := [], alts := [], laidByText := true, laidKinds := [.data, .pinned], laidTests := true, laidLooks := .later }
def IsoFormsUptoCardSaid : Prop := Claim7.holds Tryd.pinned (.plain (OpenSpec.upto isoFormsSpec)) isoFormsUptoCard

/-- THE SECOND FORM's CARD OF 'scholiumlaw18.IsoSame'. -/
def isoSameUptoCard : Claim7 := { stood := { row := isoSameUptoRow, standIns := [], harness := (true, "b542d5111547ef911870ec488479eb32e96578ff7de6d4b3262a4d89ea34c423"), looks := true }, kinds := [], alts := [], laidByText := true, laidKinds := [.data, .pinned], laidTests := true, laidLooks := .later }
def IsoSameUptoCardSaid : Prop := Claim7.holds Tryd.pinned (.plain (OpenSpec.upto isoSameSpec)) isoSameUptoCard

/-- THE SECOND FORM's CARD OF 'scholiumlaw18.IsoTurns'. -/
def isoTurnsUptoCard : Claim7 := { stood := { row := isoTurnsUptoRow, standIns := [], harness := (true, "b542d5111547ef911870ec488479eb32e96578ff7de6d4b3262a4d89ea34c423"), looks := true }, kinds := [], alts := [], laidByText := true, laidKinds := [.data, .pinned], laidTests := true, laidLooks := .later }
def IsoTurnsUptoCardSaid : Prop := Claim7.holds Tryd.pinned (.plain (OpenSpec.upto isoTurnsSpec)) isoTurnsUptoCard

/-- THE SECOND FORM's CARD OF 'scholiumlaw06.DoubleEscapes'. -/
def doubleEscapesUptoCard : Claim7 := { stood := { row := doubleEscapesUptoRow, standIns := [], harness := (true, "b542d5111547ef911870ec488479eb32e96578ff7de6d4b3262a4d89ea34c423"), looks := true }, kinds := [], alts := [], laidByText := true, laidKinds := [.data, .pinned], laidTests := true, laidLooks := .later }
def DoubleEscapesUptoCardSaid : Prop := Claim7.holds Tryd.pinned (.plain (OpenSpec.upto doubleEscapesSpec)) doubleEscapesUptoCard

/-- THE SECOND FORM's CARD OF 'scholiumlaw18.IsoApart'. -/
def isoApartUptoCard : Claim7 := { stood := { row := isoApartUptoRow, standIns := [], harness := (true, "b542d5111547ef911870ec488479eb32e96578ff7de6d4b3262a4d89ea34c423"), looks := true }, kinds := [], alts := [], laidByText := true, laidKinds := [.data, .pinned], laidTests := true, laidLooks := .later }
def IsoApartUptoCardSaid : Prop := Claim7.holds Tryd.pinned (.plain (OpenSpec.upto isoApartSpec)) isoApartUptoCard

/-- THE SECOND FORM's CARD OF 'scholiumlaw18.IsoTells'. -/
def isoTellsUptoCard : Claim7 := { stood := { row := isoTellsUptoRow, standIns := [], harness := (true, "b542d5111547ef911870ec488479eb32e96578ff7de6d4b3262a4d89ea34c423"), looks := true }, kinds := [], alts := [], laidByText := true, laidKinds := [.data, .pinned], laidTests := true, laidLooks := .later }
def IsoTellsUptoCardSaid : Prop := Claim7.holds Tryd.pinned (.plain (OpenSpec.upto isoTellsSpec)) isoTellsUptoCard

/-- THE SECOND FORM's CARD OF 'scholiumlaw18.IsoShares'. -/
def isoSharesUptoCard : Claim7 := { stood := { row := isoSharesUptoRow, standIns := [], harness := (true, "b542d5111547ef911870ec488479eb32e96578ff7de6d4b3262a4d89ea34c423"), looks := true }, kinds := [], alts := [], laidByText := true, laidKinds := [.data, .pinned], laidTests := true, laidLooks := .later }
def IsoSharesUptoCardSaid : Prop := Claim7.holds Tryd.pinned (.plain (OpenSpec.upto isoSharesSpec)) isoSharesUptoCard

/-- THE SECOND FORM's CARD OF 'scholiumlaw20.PathForms'. -/
def pathFormsUptoCard : Claim7 := { stood := { row := pathFormsUptoRow, standIns := [], harness := (true, "b542d5111547ef911870ec488479eb32e96578ff7de6d4b3262a4d89ea34c423"), looks := true }, kinds := [], alts := [], laidByText := true, laidKinds := [.data, .data, .data, .sentinel, .sentinel], laidTests := true, laidLooks := .later }
def PathFormsUptoCardSaid : Prop := Claim7.holds Tryd.pinned (.plain (OpenSpec.upto pathFormsSpec)) pathFormsUptoCard

/-- THE SECOND FORM's CARD OF 'scholiumlaw20.PathLong'. -/
def pathLongUptoCard : Claim7 := { stood := { row := pathLongUptoRow, standIns := [], harness := (true, "b542d5111547ef911870ec488479eb32e96578ff7de6d4b3262a4d89ea34c423"), looks := true }, kinds := [], alts := [], laidByText := true, laidKinds := [.data, .data, .data, .sentinel, .sentinel], laidTests := true, laidLooks := .later }
def PathLongUptoCardSaid : Prop := Claim7.holds Tryd.pinned (.plain (OpenSpec.upto pathLongSpec)) pathLongUptoCard

/-- THE SECOND FORM's CARD OF 'scholiumlaw20.PathParses'. -/
def pathParsesUptoCard : Claim7 := { stood := { row := pathParsesUptoRow, standIns := [], harness := (true, "b542d5111547ef911870ec488479eb32e96578ff7de6d4b3262a4d89ea34c423"), looks := true }, kinds := [], alts := [], laidByText := true, laidKinds := [.data, .data, .data, .sentinel, .sentinel], laidTests := true, laidLooks := .later }
def PathParsesUptoCardSaid : Prop := Claim7.holds Tryd.pinned (.plain (OpenSpec.upto pathParsesSpec)) pathParsesUptoCard

/-- THE SECOND FORM's CARD OF 'scholiumlaw20.PathJoins'. -/
def pathJoinsUptoCard : Claim7 := { stood := { row := pathJoinsUptoRow, standIns := [], harness := (true, "b542d5111547ef911870ec488479eb32e96578ff7de6d4b3262a4d89ea34c423"), looks := true }, kinds := [], alts := [], laidByText := true, laidKinds := [.data, .data, .data, .sentinel, .sentinel], laidTests := true, laidLooks := .later }
def PathJoinsUptoCardSaid : Prop := Claim7.holds Tryd.pinned (.plain (OpenSpec.upto pathJoinsSpec)) pathJoinsUptoCard
end Rows
end Go.Proofs.YtllgfccckcgekaaDoor
