/-
  DERIVED. GIVEN WITH THE SEED: THE CARDS: each row of YtkfnogdccpcmhaaGreatDoorRows.lean that lists a variable, with what it lists TIED to the program's text (the seventh form; the later family's looks); each row that meets fmt, with fmt's text TOLD by the authors' own Lean function (tested against real Go, not proved from fmt's source: count such statements apart). THE CARD IS WHAT COUNTS. Prove the row's statement (the work); the ties are given (YtkfnogdccpcmhaaGreatDoorTie.lean); close each card by the builder's one call (the guide's Derived/Test/ToyasCard.lean, 'card_holds'). Laid BY PROGRAM, IN A SANDBOX (cutbox-door.mjs). By AI agents, Wed Nov 11 2026. No macro, syntax, notation, axiom, sorry.
-/
import Derived.Test.YtkfnogdccpcmhaaGreatDoorRows
import GoSem.ClaimSeven
namespace Go.Proofs.YtkfnogdccpcmhaaGreatDoor
namespace Rows

/-- THE TIED CARD OF 'syntagmalaw15.BelowHolds'. -/
def belowHoldsCard : Claim7 := { stood := { row := belowHoldsRow, standIns := [], harness := (true, "54893003eaf57a44261ad56a99670f369a22ee2cb3d0daf7dfdab2f6f674b3c2"), looks := false }, kinds := [], alts := [], laidByText := true, laidKinds := [.data, .data, .data], laidTests := true, laidLooks := .later }
def BelowHoldsCardSaid : Prop := Claim7.holds Tryz.pinned (.plain (OpenSpec.ofChange belowHoldsSpec)) belowHoldsCard

/-- THE TIED CARD OF 'syntagmalaw39.NormJoins'. -/
def normJoinsCard : Claim7 := { stood := { row := normJoinsRow, standIns := [], harness := (true, "54893003eaf57a44261ad56a99670f369a22ee2cb3d0daf7dfdab2f6f674b3c2"), looks := false }, kinds := [], alts := [], laidByText := true, laidKinds := [.data, .data, .data], laidTests := true, laidLooks := .later }
def NormJoinsCardSaid : Prop := Claim7.holds Tryz.pinned (.plain (OpenSpec.ofChange normJoinsSpec)) normJoinsCard

/-- THE TIED CARD OF 'syntagmalaw15.BelowTypes'. -/
def belowTypesCard : Claim7 := { stood := { row := belowTypesRow, standIns := [], harness := (true, "54893003eaf57a44261ad56a99670f369a22ee2cb3d0daf7dfdab2f6f674b3c2"), looks := false }, kinds := [], alts := [], laidByText := true, laidKinds := [.data, .data, .data], laidTests := true, laidLooks := .later }
def BelowTypesCardSaid : Prop := Claim7.holds Tryz.pinned (.plain (OpenSpec.ofChange belowTypesSpec)) belowTypesCard

/-- THE TIED CARD OF 'syntagmalaw39.NormChains'. -/
def normChainsCard : Claim7 := { stood := { row := normChainsRow, standIns := [], harness := (true, "54893003eaf57a44261ad56a99670f369a22ee2cb3d0daf7dfdab2f6f674b3c2"), looks := false }, kinds := [], alts := [], laidByText := true, laidKinds := [.data, .data, .data], laidTests := true, laidLooks := .later }
def NormChainsCardSaid : Prop := Claim7.holds Tryz.pinned (.plain (OpenSpec.ofChange normChainsSpec)) normChainsCard

/-- THE TIED CARD OF 'syntagmalaw39.NormEnds'. -/
def normEndsCard : Claim7 := { stood := { row := normEndsRow, standIns := [], harness := (true, "54893003eaf57a44261ad56a99670f369a22ee2cb3d0daf7dfdab2f6f674b3c2"), looks := false }, kinds := [], alts := [], laidByText := true, laidKinds := [.data, .data, .data], laidTests := true, laidLooks := .later }
def NormEndsCardSaid : Prop := Claim7.holds Tryz.pinned (.plain (OpenSpec.ofChange normEndsSpec)) normEndsCard

/-- THE TIED CARD OF 'syntagmalaw15.BelowOrder'. -/
def belowOrderCard : Claim7 := { stood := { row := belowOrderRow, standIns := [], harness := (true, "54893003eaf57a44261ad56a99670f369a22ee2cb3d0daf7dfdab2f6f674b3c2"), looks := false }, kinds := [], alts := [], laidByText := true, laidKinds := [.data, .data, .data], laidTests := true, laidLooks := .later }
def BelowOrderCardSaid : Prop := Claim7.holds Tryz.pinned (.plain (OpenSpec.ofChange belowOrderSpec)) belowOrderCard

/-- THE TIED CARD OF 'syntagmalaw15.BelowLattice'. -/
def belowLatticeCard : Claim7 := { stood := { row := belowLatticeRow, standIns := [], harness := (true, "54893003eaf57a44261ad56a99670f369a22ee2cb3d0daf7dfdab2f6f674b3c2"), looks := false }, kinds := [], alts := [], laidByText := true, laidKinds := [.data, .data, .data], laidTests := true, laidLooks := .later }
def BelowLatticeCardSaid : Prop := Claim7.holds Tryz.pinned (.plain (OpenSpec.ofChange belowLatticeSpec)) belowLatticeCard

/-- THE TIED CARD OF 'syntagmalaw16.BoundPuts'. -/
def boundPutsCard : Claim7 := { stood := { row := boundPutsRow, standIns := [], harness := (true, "54893003eaf57a44261ad56a99670f369a22ee2cb3d0daf7dfdab2f6f674b3c2"), looks := false }, kinds := [], alts := [], laidByText := true, laidKinds := [.data, .data, .data], laidTests := true, laidLooks := .later }
def BoundPutsCardSaid : Prop := Claim7.holds Tryz.pinned (.plain (OpenSpec.ofChange boundPutsSpec)) boundPutsCard

/-- THE TIED CARD OF 'syntagmalaw16.BoundHolds'. -/
def boundHoldsCard : Claim7 := { stood := { row := boundHoldsRow, standIns := [], harness := (true, "54893003eaf57a44261ad56a99670f369a22ee2cb3d0daf7dfdab2f6f674b3c2"), looks := false }, kinds := [], alts := [], laidByText := true, laidKinds := [.data, .data, .data], laidTests := true, laidLooks := .later }
def BoundHoldsCardSaid : Prop := Claim7.holds Tryz.pinned (.plain (OpenSpec.ofChange boundHoldsSpec)) boundHoldsCard

/-- THE TIED CARD OF 'syntagmalaw16.BoundMakes'. -/
def boundMakesCard : Claim7 := { stood := { row := boundMakesRow, standIns := [], harness := (true, "54893003eaf57a44261ad56a99670f369a22ee2cb3d0daf7dfdab2f6f674b3c2"), looks := false }, kinds := [], alts := [], laidByText := true, laidKinds := [.data, .data, .data], laidTests := true, laidLooks := .later }
def BoundMakesCardSaid : Prop := Claim7.holds Tryz.pinned (.plain (OpenSpec.ofChange boundMakesSpec)) boundMakesCard

/-- THE TIED CARD OF 'syntagmalaw16.BoundRecords'. -/
def boundRecordsCard : Claim7 := { stood := { row := boundRecordsRow, standIns := [], harness := (true, "54893003eaf57a44261ad56a99670f369a22ee2cb3d0daf7dfdab2f6f674b3c2"), looks := false }, kinds := [], alts := [], laidByText := true, laidKinds := [.data, .data, .data], laidTests := true, laidLooks := .later }
def BoundRecordsCardSaid : Prop := Claim7.holds Tryz.pinned (.plain (OpenSpec.ofChange boundRecordsSpec)) boundRecordsCard

/-- THE SECOND FORM's CARD OF 'syntagmalaw15.BelowHolds'. -/
def belowHoldsUptoCard : Claim7 := { stood := { row := belowHoldsUptoRow, standIns := [], harness := (true, "54893003eaf57a44261ad56a99670f369a22ee2cb3d0daf7dfdab2f6f674b3c2"), looks := false }, kinds := [], alts := [], laidByText := true, laidKinds := [.data, .data, .data], laidTests := true, laidLooks := .later }
def BelowHoldsUptoCardSaid : Prop := Claim7.holds Tryz.pinned (.plain (OpenSpec.upto belowHoldsSpec)) belowHoldsUptoCard

/-- THE SECOND FORM's CARD OF 'syntagmalaw39.NormJoins'. -/
def normJoinsUptoCard : Claim7 := { stood := { row := normJoinsUptoRow, standIns := [], harness := (true, "54893003eaf57a44261ad56a99670f369a22ee2cb3d0daf7dfdab2f6f674b3c2"), looks := false }, kinds := [], alts := [], laidByText := true, laidKinds := [.data, .data, .data], laidTests := true, laidLooks := .later }
def NormJoinsUptoCardSaid : Prop := Claim7.holds Tryz.pinned (.plain (OpenSpec.upto normJoinsSpec)) normJoinsUptoCard

/-- THE SECOND FORM's CARD OF 'syntagmalaw15.BelowTypes'. -/
def belowTypesUptoCard : Claim7 := { stood := { row := belowTypesUptoRow, standIns := [], harness := (true, "54893003eaf57a44261ad56a99670f369a22ee2cb3d0daf7dfdab2f6f674b3c2"), looks := false }, kinds := [], alts := [], laidByText := true, laidKinds := [.data, .data, .data], laidTests := true, laidLooks := .later }
def BelowTypesUptoCardSaid : Prop := Claim7.holds Tryz.pinned (.plain (OpenSpec.upto belowTypesSpec)) belowTypesUptoCard

/-- THE SECOND FORM's CARD OF 'syntagmalaw39.NormChains'. -/
def normChainsUptoCard : Claim7 := { stood := { row := normChainsUptoRow, standIns := [], harness := (true, "54893003eaf57a44261ad56a99670f369a22ee2cb3d0daf7dfdab2f6f674b3c2"), looks := false }, kinds := [], alts := [], laidByText := true, laidKinds := [.data, .data, .data], laidTests := true, laidLooks := .later }
def NormChainsUptoCardSaid : Prop := Claim7.holds Tryz.pinned (.plain (OpenSpec.upto normChainsSpec)) normChainsUptoCard

/-- THE SECOND FORM's CARD OF 'syntagmalaw39.NormEnds'. -/
def normEndsUptoCard : Claim7 := { stood := { row := normEndsUptoRow, standIns := [], harness := (true, "54893003eaf57a44261ad56a99670f369a22ee2cb3d0daf7dfdab2f6f674b3c2"), looks := false }, kinds := [], alts := [], laidByText := true, laidKinds := [.data, .data, .data], laidTests := true, laidLooks := .later }
def NormEndsUptoCardSaid : Prop := Claim7.holds Tryz.pinned (.plain (OpenSpec.upto normEndsSpec)) normEndsUptoCard

/-- THE SECOND FORM's CARD OF 'syntagmalaw15.BelowOrder'. -/
def belowOrderUptoCard : Claim7 := { stood := { row := belowOrderUptoRow, standIns := [], harness := (true, "54893003eaf57a44261ad56a99670f369a22ee2cb3d0daf7dfdab2f6f674b3c2"), looks := false }, kinds := [], alts := [], laidByText := true, laidKinds := [.data, .data, .data], laidTests := true, laidLooks := .later }
def BelowOrderUptoCardSaid : Prop := Claim7.holds Tryz.pinned (.plain (OpenSpec.upto belowOrderSpec)) belowOrderUptoCard

/-- THE SECOND FORM's CARD OF 'syntagmalaw15.BelowLattice'. -/
def belowLatticeUptoCard : Claim7 := { stood := { row := belowLatticeUptoRow, standIns := [], harness := (true, "54893003eaf57a44261ad56a99670f369a22ee2cb3d0daf7dfdab2f6f674b3c2"), looks := false }, kinds := [], alts := [], laidByText := true, laidKinds := [.data, .data, .data], laidTests := true, laidLooks := .later }
def BelowLatticeUptoCardSaid : Prop := Claim7.holds Tryz.pinned (.plain (OpenSpec.upto belowLatticeSpec)) belowLatticeUptoCard

/-- THE SECOND FORM's CARD OF 'syntagmalaw16.BoundPuts'. -/
def boundPutsUptoCard : Claim7 := { stood := { row := boundPutsUptoRow, standIns := [], harness := (true, "54893003eaf57a44261ad56a99670f369a22ee2cb3d0daf7dfdab2f6f674b3c2"), looks := false }, kinds := [], alts := [], laidByText := true, laidKinds := [.data, .data, .data], laidTests := true, laidLooks := .later }
def BoundPutsUptoCardSaid : Prop := Claim7.holds Tryz.pinned (.plain (OpenSpec.upto boundPutsSpec)) boundPutsUptoCard

/-- THE SECOND FORM's CARD OF 'syntagmalaw16.BoundHolds'. -/
def boundHoldsUptoCard : Claim7 := { stood := { row := boundHoldsUptoRow, standIns := [], harness := (true, "54893003eaf57a44261ad56a99670f369a22ee2cb3d0daf7dfdab2f6f674b3c2"), looks := false }, kinds := [], alts := [], laidByText := true, laidKinds := [.data, .data, .data], laidTests := true, laidLooks := .later }
def BoundHoldsUptoCardSaid : Prop := Claim7.holds Tryz.pinned (.plain (OpenSpec.upto boundHoldsSpec)) boundHoldsUptoCard

/-- THE SECOND FORM's CARD OF 'syntagmalaw16.BoundMakes'. -/
def boundMakesUptoCard : Claim7 := { stood := { row := boundMakesUptoRow, standIns := [], harness := (true, "54893003eaf57a44261ad56a99670f369a22ee2cb3d0daf7dfdab2f6f674b3c2"), looks := false }, kinds := [], alts := [], laidByText := true, laidKinds := [.data, .data, .data], laidTests := true, laidLooks := .later }
def BoundMakesUptoCardSaid : Prop := Claim7.holds Tryz.pinned (.plain (OpenSpec.upto boundMakesSpec)) boundMakesUptoCard

/-- THE SECOND FORM's CARD OF 'syntagmalaw16.BoundRecords'. -/
def boundRecordsUptoCard : Claim7 := { stood := { row := boundRecordsUptoRow, standIns := [], harness := (true, "54893003eaf57a44261ad56a99670f369a22ee2cb3d0daf7dfdab2f6f674b3c2"), looks := false }, kinds := [], alts := [], laidByText := true, laidKinds := [.data, .data, .data], laidTests := true, laidLooks := .later }
def BoundRecordsUptoCardSaid : Prop := Claim7.holds Tryz.pinned (.plain (OpenSpec.upto boundRecordsSpec)) boundRecordsUptoCard
end Rows
end Go.Proofs.YtkfnogdccpcmhaaGreatDoor
