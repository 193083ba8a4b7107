/-
  DERIVED. GIVEN WITH THE SEED: THE CARDS: each row of YtdoaalbgmdpamaaDoorRows.lean that lists a variable, with what it lists TIED to the program's text (the seventh form; the later family's looks); each row that meets fmt, with fmt's text TOLD by the authors' own Lean function (tested against real Go, not proved from fmt's source: count such statements apart). THE CARD IS WHAT COUNTS. Prove the row's statement (the work); the ties are given (YtdoaalbgmdpamaaDoorTie.lean); close each card by the builder's one call (the guide's Derived/Test/ToyasCard.lean, 'card_holds'). Laid BY PROGRAM, IN A SANDBOX (cutbox-door.mjs). By AI agents, Wed Nov 11 2026. No macro, syntax, notation, axiom, sorry.
-/
import Derived.Test.YtdoaalbgmdpamaaDoorRows
import GoSem.ClaimSeven
namespace Go.Proofs.YtdoaalbgmdpamaaDoor
namespace Rows

/-- THE TIED CARD OF 'quiltlaw02.DiskTorn'. -/
def diskTornCard : Claim7 := { stood := { row := diskTornRow, standIns := [], harness := (true, "6ac3273e1df1cd6f38465ba0747cbcb01985771e02555e12f8a7a9a17a3824c1"), looks := true }, kinds := [], alts := [], laidByText := true, laidKinds := [.handle], laidTests := true, laidLooks := .later }
def DiskTornCardSaid : Prop := Claim7.holds Tryd.pinned (.plain (OpenSpec.ofChange diskTornSpec)) diskTornCard

/-- THE TIED CARD OF 'quiltlaw02.DiskLimits'. -/
def diskLimitsCard : Claim7 := { stood := { row := diskLimitsRow, standIns := [], harness := (true, "6ac3273e1df1cd6f38465ba0747cbcb01985771e02555e12f8a7a9a17a3824c1"), looks := true }, kinds := [], alts := [], laidByText := true, laidKinds := [.handle], laidTests := true, laidLooks := .later }
def DiskLimitsCardSaid : Prop := Claim7.holds Tryd.pinned (.plain (OpenSpec.ofChange diskLimitsSpec)) diskLimitsCard

/-- THE TIED CARD OF 'quiltlaw02.DiskRuns'. -/
def diskRunsCard : Claim7 := { stood := { row := diskRunsRow, standIns := [], harness := (true, "6ac3273e1df1cd6f38465ba0747cbcb01985771e02555e12f8a7a9a17a3824c1"), looks := true }, kinds := [], alts := [], laidByText := true, laidKinds := [.handle], laidTests := true, laidLooks := .later }
def DiskRunsCardSaid : Prop := Claim7.holds Tryd.pinned (.plain (OpenSpec.ofChange diskRunsSpec)) diskRunsCard

/-- THE TIED CARD OF 'quiltlaw02.DiskNew'. -/
def diskNewCard : Claim7 := { stood := { row := diskNewRow, standIns := [], harness := (true, "6ac3273e1df1cd6f38465ba0747cbcb01985771e02555e12f8a7a9a17a3824c1"), looks := true }, kinds := [], alts := [], laidByText := true, laidKinds := [.handle], laidTests := true, laidLooks := .later }
def DiskNewCardSaid : Prop := Claim7.holds Tryd.pinned (.plain (OpenSpec.ofChange diskNewSpec)) diskNewCard

/-- THE SECOND FORM's CARD OF 'quiltlaw02.DiskTorn'. -/
def diskTornUptoCard : Claim7 := { stood := { row := diskTornUptoRow, standIns := [], harness := (true, "6ac3273e1df1cd6f38465ba0747cbcb01985771e02555e12f8a7a9a17a3824c1"), looks := true }, kinds := [], alts := [], laidByText := true, laidKinds := [.handle], laidTests := true, laidLooks := .later }
def DiskTornUptoCardSaid : Prop := Claim7.holds Tryd.pinned (.plain (OpenSpec.upto diskTornSpec)) diskTornUptoCard

/-- THE SECOND FORM's CARD OF 'quiltlaw02.DiskLimits'. -/
def diskLimitsUptoCard : Claim7 := { stood := { row := diskLimitsUptoRow, standIns := [], harness := (true, "6ac3273e1df1cd6f38465ba0747cbcb01985771e02555e12f8a7a9a17a3824c1"), looks := true }, kinds := [], alts := [], laidByText := true, laidKinds := [.handle], laidTests := true, laidLooks := .later }
def DiskLimitsUptoCardSaid : Prop := Claim7.holds Tryd.pinned (.plain (OpenSpec.upto diskLimitsSpec)) diskLimitsUptoCard

/-- THE SECOND FORM's CARD OF 'quiltlaw02.DiskRuns'. -/
def diskRunsUptoCard : Claim7 := { stood := { row := diskRunsUptoRow, standIns := [], harness := (true, "6ac3273e1df1cd6f38465ba0747cbcb01985771e02555e12f8a7a9a17a3824c1"), looks := true }, kinds := [], alts := [], laidByText := true, laidKinds := [.handle], laidTests := true, laidLooks := .later }
def DiskRunsUptoCardSaid : Prop := Claim7.holds Tryd.pinned (.plain (OpenSpec.upto diskRunsSpec)) diskRunsUptoCard

/-- THE SECOND FORM's CARD OF 'quiltlaw02.DiskNew'. -/
def diskNewUptoCard : Claim7 := { stood := { row := diskNewUptoRow, standIns := [], harness := (true, "6ac3273e1df1cd6f38465ba0747cbcb01985771e02555e12f8a7a9a17a3824c1"), looks := true }, kinds := [], alts := [], laidByText := true, laidKinds := [.handle], laidTests := true, laidLooks := .later }
def DiskNewUptoCardSaid : Prop := Claim7.holds Tryd.pinned (.plain (OpenSpec.upto diskNewSpec)) diskNewUptoCard
end Rows
end Go.Proofs.YtdoaalbgmdpamaaDoor
