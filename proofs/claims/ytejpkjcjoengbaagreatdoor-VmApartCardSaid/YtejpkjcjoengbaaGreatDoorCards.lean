/-
  DERIVED. GIVEN WITH THE SEED: THE CARDS: each row of YtejpkjcjoengbaaGreatDoorRows.lean that lists a variable, with what it lists TIED to the program's text (the seventh form; the later family's looks); each row that meets fmt, with fmt's text TOLD by the authors' own Lean function (tested against real Go, not proved from fmt's source: count such statements apart). THE CARD IS WHAT COUNTS. Prove the row's statement (the work); the ties are given (YtejpkjcjoengbaaGreatDoorTie.lean); close each card by the builder's one call (the guide's Derived/Test/ToyasCard.lean, 'card_holds'). Laid BY PROGRAM, IN A SANDBOX (cutbox-door.mjs). By AI agents, Wed Nov 11 2026. No macro, syntax, notation, axiom, sorry.
-/
import Derived.Test.YtejpkjcjoengbaaGreatDoorRows
import GoSem.ClaimSeven
namespace Go.Proofs.YtejpkjcjoengbaaGreatDoor
namespace Rows

/-- THE TIED CARD OF 'stillroomlaw23.VmMore'. -/
def vmMoreCard : Claim7 := { stood := { row := vmMoreRow, standIns := [], harness := (true, "c7d8bc6d27de965aa19d6ec10cc01657a85406693cc307dab98b886a5fb73e9f"), looks := true }, kinds := [], alts := [], laidByText := true, laidKinds := [.data, .data, .data, .data, .handle, .sentinel, .sentinel, .widerDeep, .widerDeep, .pinned], laidTests := true, laidLooks := .later }
def VmMoreCardSaid : Prop := Claim7.holds Tryz.pinned (.plain (OpenSpec.ofChange vmMoreSpec)) vmMoreCard

/-- THE TIED CARD OF 'stillroomlaw23.VmApart'. -/
def vmApartCard : Claim7 := { stood := { row := vmApartRow, standIns := [], harness := (true, "c7d8bc6d27de965aa19d6ec10cc01657a85406693cc307dab98b886a5fb73e9f"), looks := true }, kinds := [], alts := [], laidByText := true, laidKinds := [.data, .data, .data, .data, .handle, .sentinel, .sentinel, .widerDeep, .widerDeep, .pinned], laidTests := true, laidLooks := .later }
def VmApartCardSaid : Prop := Claim7.holds Tryz.pinned (.plain (OpenSpec.ofChange vmApartSpec)) vmApartCard

/-- THE TIED CARD OF 'stillroomlaw23.VmCounts'. -/
def vmCountsCard : Claim7 := { stood := { row := vmCountsRow, standIns := [], harness := (true, "c7d8bc6d27de965aa19d6ec10cc01657a85406693cc307dab98b886a5fb73e9f"), looks := true }, kinds := [], alts := [], laidByText := true, laidKinds := [.data, .data, .data, .data, .handle, .sentinel, .sentinel, .widerDeep, .widerDeep, .pinned], laidTests := true, laidLooks := .later }
def VmCountsCardSaid : Prop := Claim7.holds Tryz.pinned (.plain (OpenSpec.ofChange vmCountsSpec)) vmCountsCard

/-- THE TIED CARD OF 'stillroomlaw23.VmStops'. -/
def vmStopsCard : Claim7 := { stood := { row := vmStopsRow, standIns := [], harness := (true, "c7d8bc6d27de965aa19d6ec10cc01657a85406693cc307dab98b886a5fb73e9f"), looks := true }, kinds := [], alts := [], laidByText := true, laidKinds := [.data, .data, .data, .data, .handle, .sentinel, .sentinel, .widerDeep, .widerDeep, .pinned], laidTests := true, laidLooks := .later }
def VmStopsCardSaid : Prop := Claim7.holds Tryz.pinned (.plain (OpenSpec.ofChange vmStopsSpec)) vmStopsCard

/-- THE TIED CARD OF 'stillroomlaw23.VmReads'. -/
def vmReadsCard : Claim7 := { stood := { row := vmReadsRow, standIns := [], harness := (true, "c7d8bc6d27de965aa19d6ec10cc01657a85406693cc307dab98b886a5fb73e9f"), looks := true }, kinds := [], alts := [], laidByText := true, laidKinds := [.data, .data, .data, .data, .handle, .sentinel, .sentinel, .widerDeep, .widerDeep, .pinned], laidTests := true, laidLooks := .later }
def VmReadsCardSaid : Prop := Claim7.holds Tryz.pinned (.plain (OpenSpec.ofChange vmReadsSpec)) vmReadsCard

/-- THE SECOND FORM's CARD OF 'stillroomlaw23.VmMore'. -/
def vmMoreUptoCard : Claim7 := { stood := { row := vmMoreUptoRow, standIns := [], harness := (true, "c7d8bc6d27de965aa19d6ec10cc01657a85406693cc307dab98b886a5fb73e9f"), looks := true }, kinds := [], alts := [], laidByText := true, laidKinds := [.data, .data, .data, .data, .handle, .sentinel, .sentinel, .widerDeep, .widerDeep, .pinned], laidTests := true, laidLooks := .later }
def VmMoreUptoCardSaid : Prop := Claim7.holds Tryz.pinned (.plain (OpenSpec.upto vmMoreSpec)) vmMoreUptoCard

/-- THE SECOND FORM's CARD OF 'stillroomlaw23.VmApart'. -/
def vmApartUptoCard : Claim7 := { stood := { row := vmApartUptoRow, standIns := [], harness := (true, "c7d8bc6d27de965aa19d6ec10cc01657a85406693cc307dab98b886a5fb73e9f"), looks := true }, kinds := [], alts := [], laidByText := true, laidKinds := [.data, .data, .data, .data, .handle, .sentinel, .sentinel, .widerDeep, .widerDeep, .pinned], laidTests := true, laidLooks := .later }
def VmApartUptoCardSaid : Prop := Claim7.holds Tryz.pinned (.plain (OpenSpec.upto vmApartSpec)) vmApartUptoCard

/-- THE SECOND FORM's CARD OF 'stillroomlaw23.VmCounts'. -/
def vmCountsUptoCard : Claim7 := { stood := { row := vmCountsUptoRow, standIns := [], harness := (true, "c7d8bc6d27de965aa19d6ec10cc01657a85406693cc307dab98b886a5fb73e9f"), looks := true }, kinds := [], alts := [], laidByText := true, laidKinds := [.data, .data, .data, .data, .handle, .sentinel, .sentinel, .widerDeep, .widerDeep, .pinned], laidTests := true, laidLooks := .later }
def VmCountsUptoCardSaid : Prop := Claim7.holds Tryz.pinned (.plain (OpenSpec.upto vmCountsSpec)) vmCountsUptoCard

/-- THE SECOND FORM's CARD OF 'stillroomlaw23.VmStops'. -/
def vmStopsUptoCard : Claim7 := { stood := { row := vmStopsUptoRow, standIns := [], harness := (true, "c7d8bc6d27de965aa19d6ec10cc01657a85406693cc307dab98b886a5fb73e9f"), looks := true }, kinds := [], alts := [], laidByText := true, laidKinds := [.data, .data, .data, .data, .handle, .sentinel, .sentinel, .widerDeep, .widerDeep, .pinned], laidTests := true, laidLooks := .later }
def VmStopsUptoCardSaid : Prop := Claim7.holds Tryz.pinned (.plain (OpenSpec.upto vmStopsSpec)) vmStopsUptoCard

/-- THE SECOND FORM's CARD OF 'stillroomlaw23.VmReads'. -/
def vmReadsUptoCard : Claim7 := { stood := { row := vmReadsUptoRow, standIns := [], harness := (true, "c7d8bc6d27de965aa19d6ec10cc01657a85406693cc307dab98b886a5fb73e9f"), looks := true }, kinds := [], alts := [], laidByText := true, laidKinds := [.data, .data, .data, .data, .handle, .sentinel, .sentinel, .widerDeep, .widerDeep, .pinned], laidTests := true, laidLooks := .later }
def VmReadsUptoCardSaid : Prop := Claim7.holds Tryz.pinned (.plain (OpenSpec.upto vmReadsSpec)) vmReadsUptoCard
end Rows
end Go.Proofs.YtejpkjcjoengbaaGreatDoor
