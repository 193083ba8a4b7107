/-
  DERIVED. GIVEN WITH THE SEED: THE CARDS: each row of YtmgnabfmmmagkaaDoorRows.lean that lists a variable, with what it lists TIED to the program's text (the seventh form; the later family's looks); each row that meets fmt, with fmt's text TOLD by the authors' own Lean function (tested against real Go, not proved from fmt's source: count such statements apart). THE CARD IS WHAT COUNTS. Prove the row's statement (the work); the ties are given (YtmgnabfmmmagkaaDoorTie.lean); close each card by the builder's one call (the guide's Derived/Test/ToyasCard.lean, 'card_holds'). Laid BY PROGRAM, IN A SANDBOX (cutbox-door.mjs). By AI agents, Wed Nov 11 2026. No macro, syntax, notation, axiom, sorry.
-/
import Derived.Test.YtmgnabfmmmagkaaDoorRows
import GoSem.ClaimSeven
namespace Go.Proofs.YtmgnabfmmmagkaaDoor
namespace Rows

/-- THE TIED CARD OF 'quiltlaw01.SumRot'. -/
def sumRotCard : Claim7 := { stood := { row := sumRotRow, standIns := [], harness := (true, "78f256399f87d55dd76e76a33a4a93cd17a2f81d788051593a429f635a0bc667"), looks := true }, kinds := [], alts := [], laidByText := true, laidKinds := [.data], laidTests := true, laidLooks := .later }
def SumRotCardSaid : Prop := Claim7.holds Tryd.pinned (.plain (OpenSpec.ofChange sumRotSpec)) sumRotCard

/-- THE TIED CARD OF 'quiltlaw01.SumTurned'. -/
def sumTurnedCard : Claim7 := { stood := { row := sumTurnedRow, standIns := [], harness := (true, "78f256399f87d55dd76e76a33a4a93cd17a2f81d788051593a429f635a0bc667"), looks := true }, kinds := [], alts := [], laidByText := true, laidKinds := [.data], laidTests := true, laidLooks := .later }
def SumTurnedCardSaid : Prop := Claim7.holds Tryd.pinned (.plain (OpenSpec.ofChange sumTurnedSpec)) sumTurnedCard

/-- THE TIED CARD OF 'quiltlaw01.SumOnce'. -/
def sumOnceCard : Claim7 := { stood := { row := sumOnceRow, standIns := [], harness := (true, "78f256399f87d55dd76e76a33a4a93cd17a2f81d788051593a429f635a0bc667"), looks := true }, kinds := [], alts := [], laidByText := true, laidKinds := [.data], laidTests := true, laidLooks := .later }
def SumOnceCardSaid : Prop := Claim7.holds Tryd.pinned (.plain (OpenSpec.ofChange sumOnceSpec)) sumOnceCard

/-- THE TIED CARD OF 'quiltlaw01.SumSums'. -/
def sumSumsCard : Claim7 := { stood := { row := sumSumsRow, standIns := [], harness := (true, "78f256399f87d55dd76e76a33a4a93cd17a2f81d788051593a429f635a0bc667"), looks := true }, kinds := [], alts := [], laidByText := true, laidKinds := [.data], laidTests := true, laidLooks := .later }
def SumSumsCardSaid : Prop := Claim7.holds Tryd.pinned (.plain (OpenSpec.ofChange sumSumsSpec)) sumSumsCard

/-- THE TIED CARD OF 'quiltlaw01.SumNoughts'. -/
def sumNoughtsCard : Claim7 := { stood := { row := sumNoughtsRow, standIns := [], harness := (true, "78f256399f87d55dd76e76a33a4a93cd17a2f81d788051593a429f635a0bc667"), looks := true }, kinds := [], alts := [], laidByText := true, laidKinds := [.data], laidTests := true, laidLooks := .later }
def SumNoughtsCardSaid : Prop := Claim7.holds Tryd.pinned (.plain (OpenSpec.ofChange sumNoughtsSpec)) sumNoughtsCard

/-- THE TIED CARD OF 'quiltlaw01.SumParts'. -/
def sumPartsCard : Claim7 := { stood := { row := sumPartsRow, standIns := [], harness := (true, "78f256399f87d55dd76e76a33a4a93cd17a2f81d788051593a429f635a0bc667"), looks := true }, kinds := [], alts := [], laidByText := true, laidKinds := [.data], laidTests := true, laidLooks := .later }
def SumPartsCardSaid : Prop := Claim7.holds Tryd.pinned (.plain (OpenSpec.ofChange sumPartsSpec)) sumPartsCard

/-- THE TIED CARD OF 'quiltlaw01.SumMarks'. -/
def sumMarksCard : Claim7 := { stood := { row := sumMarksRow, standIns := [], harness := (true, "78f256399f87d55dd76e76a33a4a93cd17a2f81d788051593a429f635a0bc667"), looks := true }, kinds := [], alts := [], laidByText := true, laidKinds := [.handle, .data], laidTests := true, laidLooks := .later }
def SumMarksCardSaid : Prop := Claim7.holds Tryd.pinned (.plain (OpenSpec.ofChange sumMarksSpec)) sumMarksCard

/-- THE SECOND FORM's CARD OF 'quiltlaw01.SumRot'. -/
def sumRotUptoCard : Claim7 := { stood := { row := sumRotUptoRow, standIns := [], harness := (true, "78f256399f87d55dd76e76a33a4a93cd17a2f81d788051593a429f635a0bc667"), looks := true }, kinds := [], alts := [], laidByText := true, laidKinds := [.data], laidTests := true, laidLooks := .later }
def SumRotUptoCardSaid : Prop := Claim7.holds Tryd.pinned (.plain (OpenSpec.upto sumRotSpec)) sumRotUptoCard

/-- THE SECOND FORM's CARD OF 'quiltlaw01.SumTurned'. -/
def sumTurnedUptoCard : Claim7 := { stood := { row := sumTurnedUptoRow, standIns := [], harness := (true, "78f256399f87d55dd76e76a33a4a93cd17a2f81d788051593a429f635a0bc667"), looks := true }, kinds := [], alts := [], laidByText := true, laidKinds := [.data], laidTests := true, laidLooks := .later }
def SumTurnedUptoCardSaid : Prop := Claim7.holds Tryd.pinned (.plain (OpenSpec.upto sumTurnedSpec)) sumTurnedUptoCard

/-- THE SECOND FORM's CARD OF 'quiltlaw01.SumOnce'. -/
def sumOnceUptoCard : Claim7 := { stood := { row := sumOnceUptoRow, standIns := [], harness := (true, "78f256399f87d55dd76e76a33a4a93cd17a2f81d788051593a429f635a0bc667"), looks := true }, kinds := [], alts := [], laidByText := true, laidKinds := [.data], laidTests := true, laidLooks := .later }
def SumOnceUptoCardSaid : Prop := Claim7.holds Tryd.pinned (.plain (OpenSpec.upto sumOnceSpec)) sumOnceUptoCard

/-- THE SECOND FORM's CARD OF 'quiltlaw01.SumSums'. -/
def sumSumsUptoCard : Claim7 := { stood := { row := sumSumsUptoRow, standIns := [], harness := (true, "78f256399f87d55dd76e76a33a4a93cd17a2f81d788051593a429f635a0bc667"), looks := true }, kinds := [], alts := [], laidByText := true, laidKinds := [.data], laidTests := true, laidLooks := .later }
def SumSumsUptoCardSaid : Prop := Claim7.holds Tryd.pinned (.plain (OpenSpec.upto sumSumsSpec)) sumSumsUptoCard

/-- THE SECOND FORM's CARD OF 'quiltlaw01.SumNoughts'. -/
def sumNoughtsUptoCard : Claim7 := { stood := { row := sumNoughtsUptoRow, standIns := [], harness := (true, "78f256399f87d55dd76e76a33a4a93cd17a2f81d788051593a429f635a0bc667"), looks := true }, kinds := [], alts := [], laidByText := true, laidKinds := [.data], laidTests := true, laidLooks := .later }
def SumNoughtsUptoCardSaid : Prop := Claim7.holds Tryd.pinned (.plain (OpenSpec.upto sumNoughtsSpec)) sumNoughtsUptoCard

/-- THE SECOND FORM's CARD OF 'quiltlaw01.SumParts'. -/
def sumPartsUptoCard : Claim7 := { stood := { row := sumPartsUptoRow, standIns := [], harness := (true, "78f256399f87d55dd76e76a33a4a93cd17a2f81d788051593a429f635a0bc667"), looks := true }, kinds := [], alts := [], laidByText := true, laidKinds := [.data], laidTests := true, laidLooks := .later }
def SumPartsUptoCardSaid : Prop := Claim7.holds Tryd.pinned (.plain (OpenSpec.upto sumPartsSpec)) sumPartsUptoCard

/-- THE SECOND FORM's CARD OF 'quiltlaw01.SumMarks'. -/
def sumMarksUptoCard : Claim7 := { stood := { row := sumMarksUptoRow, standIns := [], harness := (true, "78f256399f87d55dd76e76a33a4a93cd17a2f81d788051593a429f635a0bc667"), looks := true }, kinds := [], alts := [], laidByText := true, laidKinds := [.handle, .data], laidTests := true, laidLooks := .later }
def SumMarksUptoCardSaid : Prop := Claim7.holds Tryd.pinned (.plain (OpenSpec.upto sumMarksSpec)) sumMarksUptoCard
end Rows
end Go.Proofs.YtmgnabfmmmagkaaDoor
