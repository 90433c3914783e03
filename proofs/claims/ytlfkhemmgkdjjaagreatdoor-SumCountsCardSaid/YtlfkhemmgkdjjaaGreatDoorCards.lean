/-
  DERIVED. GIVEN WITH THE SEED: THE CARDS: each row of YtlfkhemmgkdjjaaGreatDoorRows.lean that lists a variable, with what it lists TIED to the program's text (the seventh form; the later family's looks); each row that meets fmt, with fmt's text TOLD by the authors' own Lean function (tested against real Go, not proved from fmt's source: count such statements apart). THE CARD IS WHAT COUNTS. Prove the row's statement (the work); the ties are given (YtlfkhemmgkdjjaaGreatDoorTie.lean); close each card by the builder's one call (the guide's Derived/Test/ToyasCard.lean, 'card_holds'). Laid BY PROGRAM, IN A SANDBOX (cutbox-door.mjs). By AI agents, Wed Nov 11 2026. No macro, syntax, notation, axiom, sorry.
-/
import Derived.Test.YtlfkhemmgkdjjaaGreatDoorRows
import GoSem.ClaimSeven
namespace Go.Proofs.YtlfkhemmgkdjjaaGreatDoor
namespace Rows

/-- THE TIED CARD OF 'cantonlaw19.SumCounts'. -/
def sumCountsCard : Claim7 := { stood := { row := sumCountsRow, standIns := [], harness := (true, "68187d0ffb2e40132223b5ad063a3f6349d4a769c124b5f6ce35dc093becc20e"), looks := true }, kinds := [], alts := [], laidByText := true, laidKinds := [.data, .data, .data, .data, .pinned], laidTests := true, laidLooks := .later }
def SumCountsCardSaid : Prop := Claim7.holds Tryz.pinned (.plain (OpenSpec.ofChange sumCountsSpec)) sumCountsCard

/-- THE TIED CARD OF 'cantonlaw19.SumTold'. -/
def sumToldCard : Claim7 := { stood := { row := sumToldRow, standIns := [], harness := (true, "68187d0ffb2e40132223b5ad063a3f6349d4a769c124b5f6ce35dc093becc20e"), looks := true }, kinds := [], alts := [], laidByText := true, laidKinds := [.data, .data, .data, .data, .pinned], laidTests := true, laidLooks := .later }
def SumToldCardSaid : Prop := Claim7.holds Tryz.pinned (.plain (OpenSpec.ofChange sumToldSpec)) sumToldCard

/-- THE TIED CARD OF 'cantonlaw11.AggTexts'. -/
def aggTextsCard : Claim7 := { stood := { row := aggTextsRow, standIns := [], harness := (true, "68187d0ffb2e40132223b5ad063a3f6349d4a769c124b5f6ce35dc093becc20e"), looks := true }, kinds := [], alts := [], laidByText := true, laidKinds := [.data, .data, .data, .sentinel, .sentinel, .listed, .data], laidTests := true, laidLooks := .later }
def AggTextsCardSaid : Prop := Claim7.holds Tryz.pinned (.plain (OpenSpec.ofChange aggTextsSpec)) aggTextsCard

/-- THE TIED CARD OF 'cantonlaw11.AggBack'. -/
def aggBackCard : Claim7 := { stood := { row := aggBackRow, standIns := [], harness := (true, "68187d0ffb2e40132223b5ad063a3f6349d4a769c124b5f6ce35dc093becc20e"), looks := true }, kinds := [], alts := [], laidByText := true, laidKinds := [.data, .data, .data, .sentinel, .sentinel, .listed, .data], laidTests := true, laidLooks := .later }
def AggBackCardSaid : Prop := Claim7.holds Tryz.pinned (.plain (OpenSpec.ofChange aggBackSpec)) aggBackCard

/-- THE TIED CARD OF 'cantonlaw11.AggEval'. -/
def aggEvalCard : Claim7 := { stood := { row := aggEvalRow, standIns := [], harness := (true, "68187d0ffb2e40132223b5ad063a3f6349d4a769c124b5f6ce35dc093becc20e"), looks := true }, kinds := [], alts := [], laidByText := true, laidKinds := [.data, .data, .data, .sentinel, .sentinel, .listed, .data], laidTests := true, laidLooks := .later }
def AggEvalCardSaid : Prop := Claim7.holds Tryz.pinned (.plain (OpenSpec.ofChange aggEvalSpec)) aggEvalCard

/-- THE TIED CARD OF 'cantonlaw11.AggNone'. -/
def aggNoneCard : Claim7 := { stood := { row := aggNoneRow, standIns := [], harness := (true, "68187d0ffb2e40132223b5ad063a3f6349d4a769c124b5f6ce35dc093becc20e"), looks := true }, kinds := [], alts := [], laidByText := true, laidKinds := [.data, .data, .data, .sentinel, .sentinel, .listed, .data], laidTests := true, laidLooks := .later }
def AggNoneCardSaid : Prop := Claim7.holds Tryz.pinned (.plain (OpenSpec.ofChange aggNoneSpec)) aggNoneCard

/-- THE TIED CARD OF 'cantonlaw11.AggTurned'. -/
def aggTurnedCard : Claim7 := { stood := { row := aggTurnedRow, standIns := [], harness := (true, "68187d0ffb2e40132223b5ad063a3f6349d4a769c124b5f6ce35dc093becc20e"), looks := true }, kinds := [], alts := [], laidByText := true, laidKinds := [.data, .data, .data, .sentinel, .sentinel, .listed, .data], laidTests := true, laidLooks := .later }
def AggTurnedCardSaid : Prop := Claim7.holds Tryz.pinned (.plain (OpenSpec.ofChange aggTurnedSpec)) aggTurnedCard

/-- THE TIED CARD OF 'cantonlaw12.ProgTexts'. -/
def progTextsCard : Claim7 := { stood := { row := progTextsRow, standIns := [], harness := (true, "68187d0ffb2e40132223b5ad063a3f6349d4a769c124b5f6ce35dc093becc20e"), looks := true }, kinds := [], alts := [], laidByText := true, laidKinds := [.data, .data, .data, .data, .sentinel, .sentinel, .listed, .data, .pinned], laidTests := true, laidLooks := .later }
def ProgTextsCardSaid : Prop := Claim7.holds Tryz.pinned (.plain (OpenSpec.ofChange progTextsSpec)) progTextsCard

/-- THE TIED CARD OF 'cantonlaw12.ProgRuns'. -/
def progRunsCard : Claim7 := { stood := { row := progRunsRow, standIns := [], harness := (true, "68187d0ffb2e40132223b5ad063a3f6349d4a769c124b5f6ce35dc093becc20e"), looks := true }, kinds := [], alts := [], laidByText := true, laidKinds := [.data, .data, .data, .data, .sentinel, .sentinel, .listed, .data, .pinned], laidTests := true, laidLooks := .later }
def ProgRunsCardSaid : Prop := Claim7.holds Tryz.pinned (.plain (OpenSpec.ofChange progRunsSpec)) progRunsCard

/-- THE TIED CARD OF 'cantonlaw12.ProgTwo'. -/
def progTwoCard : Claim7 := { stood := { row := progTwoRow, standIns := [], harness := (true, "68187d0ffb2e40132223b5ad063a3f6349d4a769c124b5f6ce35dc093becc20e"), looks := true }, kinds := [], alts := [], laidByText := true, laidKinds := [.data, .data, .data, .data, .sentinel, .sentinel, .listed, .data, .pinned], laidTests := true, laidLooks := .later }
def ProgTwoCardSaid : Prop := Claim7.holds Tryz.pinned (.plain (OpenSpec.ofChange progTwoSpec)) progTwoCard

/-- THE TIED CARD OF 'cantonlaw12.ProgLines'. -/
def progLinesCard : Claim7 := { stood := { row := progLinesRow, standIns := [], harness := (true, "68187d0ffb2e40132223b5ad063a3f6349d4a769c124b5f6ce35dc093becc20e"), looks := true }, kinds := [], alts := [], laidByText := true, laidKinds := [.data, .data, .data, .data, .sentinel, .sentinel, .listed, .data, .pinned], laidTests := true, laidLooks := .later }
def ProgLinesCardSaid : Prop := Claim7.holds Tryz.pinned (.plain (OpenSpec.ofChange progLinesSpec)) progLinesCard

/-- THE TIED CARD OF 'cantonlaw12.ProgOrder'. -/
def progOrderCard : Claim7 := { stood := { row := progOrderRow, standIns := [], harness := (true, "68187d0ffb2e40132223b5ad063a3f6349d4a769c124b5f6ce35dc093becc20e"), looks := true }, kinds := [], alts := [], laidByText := true, laidKinds := [.data, .data, .data, .data, .sentinel, .sentinel, .listed, .data, .pinned], laidTests := true, laidLooks := .later }
def ProgOrderCardSaid : Prop := Claim7.holds Tryz.pinned (.plain (OpenSpec.ofChange progOrderSpec)) progOrderCard

/-- THE SECOND FORM's CARD OF 'cantonlaw19.SumCounts'. -/
def sumCountsUptoCard : Claim7 := { stood := { row := sumCountsUptoRow, standIns := [], harness := (true, "68187d0ffb2e40132223b5ad063a3f6349d4a769c124b5f6ce35dc093becc20e"), looks := true }, kinds := [], alts := [], laidByText := true, laidKinds := [.data, .data, .data, .data, .pinned], laidTests := true, laidLooks := .later }
def SumCountsUptoCardSaid : Prop := Claim7.holds Tryz.pinned (.plain (OpenSpec.upto sumCountsSpec)) sumCountsUptoCard

/-- THE SECOND FORM's CARD OF 'cantonlaw19.SumTold'. -/
def sumToldUptoCard : Claim7 := { stood := { row := sumToldUptoRow, standIns := [], harness := (true, "68187d0ffb2e40132223b5ad063a3f6349d4a769c124b5f6ce35dc093becc20e"), looks := true }, kinds := [], alts := [], laidByText := true, laidKinds := [.data, .data, .data, .data, .pinned], laidTests := true, laidLooks := .later }
def SumToldUptoCardSaid : Prop := Claim7.holds Tryz.pinned (.plain (OpenSpec.upto sumToldSpec)) sumToldUptoCard

/-- THE SECOND FORM's CARD OF 'cantonlaw11.AggTexts'. -/
def aggTextsUptoCard : Claim7 := { stood := { row := aggTextsUptoRow, standIns := [], harness := (true, "68187d0ffb2e40132223b5ad063a3f6349d4a769c124b5f6ce35dc093becc20e"), looks := true }, kinds := [], alts := [], laidByText := true, laidKinds := [.data, .data, .data, .sentinel, .sentinel, .listed, .data], laidTests := true, laidLooks := .later }
def AggTextsUptoCardSaid : Prop := Claim7.holds Tryz.pinned (.plain (OpenSpec.upto aggTextsSpec)) aggTextsUptoCard

/-- THE SECOND FORM's CARD OF 'cantonlaw11.AggBack'. -/
def aggBackUptoCard : Claim7 := { stood := { row := aggBackUptoRow, standIns := [], harness := (true, "68187d0ffb2e40132223b5ad063a3f6349d4a769c124b5f6ce35dc093becc20e"), looks := true }, kinds := [], alts := [], laidByText := true, laidKinds := [.data, .data, .data, .sentinel, .sentinel, .listed, .data], laidTests := true, laidLooks := .later }
def AggBackUptoCardSaid : Prop := Claim7.holds Tryz.pinned (.plain (OpenSpec.upto aggBackSpec)) aggBackUptoCard

/-- THE SECOND FORM's CARD OF 'cantonlaw11.AggEval'. -/
def aggEvalUptoCard : Claim7 := { stood := { row := aggEvalUptoRow, standIns := [], harness := (true, "68187d0ffb2e40132223b5ad063a3f6349d4a769c124b5f6ce35dc093becc20e"), looks := true }, kinds := [], alts := [], laidByText := true, laidKinds := [.data, .data, .data, .sentinel, .sentinel, .listed, .data], laidTests := true, laidLooks := .later }
def AggEvalUptoCardSaid : Prop := Claim7.holds Tryz.pinned (.plain (OpenSpec.upto aggEvalSpec)) aggEvalUptoCard

/-- THE SECOND FORM's CARD OF 'cantonlaw11.AggNone'. -/
def aggNoneUptoCard : Claim7 := { stood := { row := aggNoneUptoRow, standIns := [], harness := (true, "68187d0ffb2e40132223b5ad063a3f6349d4a769c124b5f6ce35dc093becc20e"), looks := true }, kinds := [], alts := [], laidByText := true, laidKinds := [.data, .data, .data, .sentinel, .sentinel, .listed, .data], laidTests := true, laidLooks := .later }
def AggNoneUptoCardSaid : Prop := Claim7.holds Tryz.pinned (.plain (OpenSpec.upto aggNoneSpec)) aggNoneUptoCard

/-- THE SECOND FORM's CARD OF 'cantonlaw11.AggTurned'. -/
def aggTurnedUptoCard : Claim7 := { stood := { row := aggTurnedUptoRow, standIns := [], harness := (true, "68187d0ffb2e40132223b5ad063a3f6349d4a769c124b5f6ce35dc093becc20e"), looks := true }, kinds := [], alts := [], laidByText := true, laidKinds := [.data, .data, .data, .sentinel, .sentinel, .listed, .data], laidTests := true, laidLooks := .later }
def AggTurnedUptoCardSaid : Prop := Claim7.holds Tryz.pinned (.plain (OpenSpec.upto aggTurnedSpec)) aggTurnedUptoCard

/-- THE SECOND FORM's CARD OF 'cantonlaw12.ProgTexts'. -/
def progTextsUptoCard : Claim7 := { stood := { row := progTextsUptoRow, standIns := [], harness := (true, "68187d0ffb2e40132223b5ad063a3f6349d4a769c124b5f6ce35dc093becc20e"), looks := true }, kinds := [], alts := [], laidByText := true, laidKinds := [.data, .data, .data, .data, .sentinel, .sentinel, .listed, .data, .pinned], laidTests := true, laidLooks := .later }
def ProgTextsUptoCardSaid : Prop := Claim7.holds Tryz.pinned (.plain (OpenSpec.upto progTextsSpec)) progTextsUptoCard

/-- THE SECOND FORM's CARD OF 'cantonlaw12.ProgRuns'. -/
def progRunsUptoCard : Claim7 := { stood := { row := progRunsUptoRow, standIns := [], harness := (true, "68187d0ffb2e40132223b5ad063a3f6349d4a769c124b5f6ce35dc093becc20e"), looks := true }, kinds := [], alts := [], laidByText := true, laidKinds := [.data, .data, .data, .data, .sentinel, .sentinel, .listed, .data, .pinned], laidTests := true, laidLooks := .later }
def ProgRunsUptoCardSaid : Prop := Claim7.holds Tryz.pinned (.plain (OpenSpec.upto progRunsSpec)) progRunsUptoCard

/-- THE SECOND FORM's CARD OF 'cantonlaw12.ProgTwo'. -/
def progTwoUptoCard : Claim7 := { stood := { row := progTwoUptoRow, standIns := [], harness := (true, "68187d0ffb2e40132223b5ad063a3f6349d4a769c124b5f6ce35dc093becc20e"), looks := true }, kinds := [], alts := [], laidByText := true, laidKinds := [.data, .data, .data, .data, .sentinel, .sentinel, .listed, .data, .pinned], laidTests := true, laidLooks := .later }
def ProgTwoUptoCardSaid : Prop := Claim7.holds Tryz.pinned (.plain (OpenSpec.upto progTwoSpec)) progTwoUptoCard

/-- THE SECOND FORM's CARD OF 'cantonlaw12.ProgLines'. -/
def progLinesUptoCard : Claim7 := { stood := { row := progLinesUptoRow, standIns := [], harness := (true, "68187d0ffb2e40132223b5ad063a3f6349d4a769c124b5f6ce35dc093becc20e"), looks := true }, kinds := [], alts := [], laidByText := true, laidKinds := [.data, .data, .data, .data, .sentinel, .sentinel, .listed, .data, .pinned], laidTests := true, laidLooks := .later }
def ProgLinesUptoCardSaid : Prop := Claim7.holds Tryz.pinned (.plain (OpenSpec.upto progLinesSpec)) progLinesUptoCard

/-- THE SECOND FORM's CARD OF 'cantonlaw12.ProgOrder'. -/
def progOrderUptoCard : Claim7 := { stood := { row := progOrderUptoRow, standIns := [], harness := (true, "68187d0ffb2e40132223b5ad063a3f6349d4a769c124b5f6ce35dc093becc20e"), looks := true }, kinds := [], alts := [], laidByText := true, laidKinds := [.data, .data, .data, .data, .sentinel, .sentinel, .listed, .data, .pinned], laidTests := true, laidLooks := .later }
def ProgOrderUptoCardSaid : Prop := Claim7.holds Tryz.pinned (.plain (OpenSpec.upto progOrderSpec)) progOrderUptoCard
end Rows
end Go.Proofs.YtlfkhemmgkdjjaaGreatDoor
