/-
  DERIVED. GIVEN WITH THE SEED: THE CARDS: each row of YtdhmloejgoacaaaGreatDoorRows.lean that lists a variable, with what it lists TIED to the program's text (the seventh form; the later family's looks); each row that meets fmt, with fmt's text TOLD by the authors' own Lean function (tested against real Go, not proved from fmt's source: count such statements apart). THE CARD IS WHAT COUNTS. Prove the row's statement (the work); the ties are given (YtdhmloejgoacaaaGreatDoorTie.lean); close each card by the builder's one call (the guide's Derived/Test/ToyasCard.lean, 'card_holds'). Laid BY PROGRAM, IN A SANDBOX (cutbox-door.mjs). By AI agents, Wed Nov 11 2026. No macro, syntax, notation, axiom, sorry.
-/
import Derived.Test.YtdhmloejgoacaaaGreatDoorRows
import GoSem.ClaimSeven
namespace Go.Proofs.YtdhmloejgoacaaaGreatDoor
namespace Rows

/-- THE TIED CARD OF 'belfrylaw14.LogqBack'. -/
def logqBackCard : Claim7 := { stood := { row := logqBackRow, standIns := [], harness := (true, "bdc5bbf885d61ef38107849a4c6bbae99d892d2ecf6b0da01d4e23ddab0e90c6"), looks := true }, kinds := [], alts := [], laidByText := true, laidKinds := [.data, .data, .data, .data, .sentinel, .sentinel, .pinned], laidTests := true, laidLooks := .later }
def LogqBackCardSaid : Prop := Claim7.holds Tryz.pinned (.plain (OpenSpec.ofChange logqBackSpec)) logqBackCard

/-- THE TIED CARD OF 'belfrylaw14.LogqWrites'. -/
def logqWritesCard : Claim7 := { stood := { row := logqWritesRow, standIns := [], harness := (true, "bdc5bbf885d61ef38107849a4c6bbae99d892d2ecf6b0da01d4e23ddab0e90c6"), looks := true }, kinds := [], alts := [], laidByText := true, laidKinds := [.data, .data, .data, .data, .sentinel, .sentinel, .pinned], laidTests := true, laidLooks := .later }
def LogqWritesCardSaid : Prop := Claim7.holds Tryz.pinned (.plain (OpenSpec.ofChange logqWritesSpec)) logqWritesCard

/-- THE TIED CARD OF 'belfrylaw14.LogqFits'. -/
def logqFitsCard : Claim7 := { stood := { row := logqFitsRow, standIns := [], harness := (true, "bdc5bbf885d61ef38107849a4c6bbae99d892d2ecf6b0da01d4e23ddab0e90c6"), looks := true }, kinds := [], alts := [], laidByText := true, laidKinds := [.data, .data, .data, .data, .sentinel, .sentinel, .pinned], laidTests := true, laidLooks := .later }
def LogqFitsCardSaid : Prop := Claim7.holds Tryz.pinned (.plain (OpenSpec.ofChange logqFitsSpec)) logqFitsCard

/-- THE TIED CARD OF 'belfrylaw15.TraceqBack'. -/
def traceqBackCard : Claim7 := { stood := { row := traceqBackRow, standIns := [], harness := (true, "bdc5bbf885d61ef38107849a4c6bbae99d892d2ecf6b0da01d4e23ddab0e90c6"), looks := true }, kinds := [], alts := [], laidByText := true, laidKinds := [.data, .data, .data, .data, .pinned], laidTests := true, laidLooks := .later }
def TraceqBackCardSaid : Prop := Claim7.holds Tryz.pinned (.plain (OpenSpec.ofChange traceqBackSpec)) traceqBackCard

/-- THE TIED CARD OF 'belfrylaw15.TraceqWrites'. -/
def traceqWritesCard : Claim7 := { stood := { row := traceqWritesRow, standIns := [], harness := (true, "bdc5bbf885d61ef38107849a4c6bbae99d892d2ecf6b0da01d4e23ddab0e90c6"), looks := true }, kinds := [], alts := [], laidByText := true, laidKinds := [.data, .data, .data, .data, .pinned], laidTests := true, laidLooks := .later }
def TraceqWritesCardSaid : Prop := Claim7.holds Tryz.pinned (.plain (OpenSpec.ofChange traceqWritesSpec)) traceqWritesCard

/-- THE TIED CARD OF 'belfrylaw15.TraceqUnder'. -/
def traceqUnderCard : Claim7 := { stood := { row := traceqUnderRow, standIns := [], harness := (true, "bdc5bbf885d61ef38107849a4c6bbae99d892d2ecf6b0da01d4e23ddab0e90c6"), looks := true }, kinds := [], alts := [], laidByText := true, laidKinds := [.data, .data, .data, .data, .pinned], laidTests := true, laidLooks := .later }
def TraceqUnderCardSaid : Prop := Claim7.holds Tryz.pinned (.plain (OpenSpec.ofChange traceqUnderSpec)) traceqUnderCard

/-- THE TIED CARD OF 'belfrylaw15.TraceqFits'. -/
def traceqFitsCard : Claim7 := { stood := { row := traceqFitsRow, standIns := [], harness := (true, "bdc5bbf885d61ef38107849a4c6bbae99d892d2ecf6b0da01d4e23ddab0e90c6"), looks := true }, kinds := [], alts := [], laidByText := true, laidKinds := [.data, .data, .data, .data, .pinned], laidTests := true, laidLooks := .later }
def TraceqFitsCardSaid : Prop := Claim7.holds Tryz.pinned (.plain (OpenSpec.ofChange traceqFitsSpec)) traceqFitsCard

/-- THE SECOND FORM's CARD OF 'belfrylaw14.LogqBack'. -/
def logqBackUptoCard : Claim7 := { stood := { row := logqBackUptoRow, standIns := [], harness := (true, "bdc5bbf885d61ef38107849a4c6bbae99d892d2ecf6b0da01d4e23ddab0e90c6"), looks := true }, kinds := [], alts := [], laidByText := true, laidKinds := [.data, .data, .data, .data, .sentinel, .sentinel, .pinned], laidTests := true, laidLooks := .later }
def LogqBackUptoCardSaid : Prop := Claim7.holds Tryz.pinned (.plain (OpenSpec.upto logqBackSpec)) logqBackUptoCard

/-- THE SECOND FORM's CARD OF 'belfrylaw14.LogqWrites'. -/
def logqWritesUptoCard : Claim7 := { stood := { row := logqWritesUptoRow, standIns := [], harness := (true, "bdc5bbf885d61ef38107849a4c6bbae99d892d2ecf6b0da01d4e23ddab0e90c6"), looks := true }, kinds := [], alts := [], laidByText := true, laidKinds := [.data, .data, .data, .data, .sentinel, .sentinel, .pinned], laidTests := true, laidLooks := .later }
def LogqWritesUptoCardSaid : Prop := Claim7.holds Tryz.pinned (.plain (OpenSpec.upto logqWritesSpec)) logqWritesUptoCard

/-- THE SECOND FORM's CARD OF 'belfrylaw14.LogqFits'. -/
def logqFitsUptoCard : Claim7 := { stood := { row := logqFitsUptoRow, standIns := [], harness := (true, "bdc5bbf885d61ef38107849a4c6bbae99d892d2ecf6b0da01d4e23ddab0e90c6"), looks := true }, kinds := [], alts := [], laidByText := true, laidKinds := [.data, .data, .data, .data, .sentinel, .sentinel, .pinned], laidTests := true, laidLooks := .later }
def LogqFitsUptoCardSaid : Prop := Claim7.holds Tryz.pinned (.plain (OpenSpec.upto logqFitsSpec)) logqFitsUptoCard

/-- THE SECOND FORM's CARD OF 'belfrylaw15.TraceqBack'. -/
def traceqBackUptoCard : Claim7 := { stood := { row := traceqBackUptoRow, standIns := [], harness := (true, "bdc5bbf885d61ef38107849a4c6bbae99d892d2ecf6b0da01d4e23ddab0e90c6"), looks := true }, kinds := [], alts := [], laidByText := true, laidKinds := [.data, .data, .data, .data, .pinned], laidTests := true, laidLooks := .later }
def TraceqBackUptoCardSaid : Prop := Claim7.holds Tryz.pinned (.plain (OpenSpec.upto traceqBackSpec)) traceqBackUptoCard

/-- THE SECOND FORM's CARD OF 'belfrylaw15.TraceqWrites'. -/
def traceqWritesUptoCard : Claim7 := { stood := { row := traceqWritesUptoRow, standIns := [], harness := (true, "bdc5bbf885d61ef38107849a4c6bbae99d892d2ecf6b0da01d4e23ddab0e90c6"), looks := true }, kinds := [], alts := [], laidByText := true, laidKinds := [.data, .data, .data, .data, .pinned], laidTests := true, laidLooks := .later }
def TraceqWritesUptoCardSaid : Prop := Claim7.holds Tryz.pinned (.plain (OpenSpec.upto traceqWritesSpec)) traceqWritesUptoCard

/-- THE SECOND FORM's CARD OF 'belfrylaw15.TraceqUnder'. -/
def traceqUnderUptoCard : Claim7 := { stood := { row := traceqUnderUptoRow, standIns := [], harness := (true, "bdc5bbf885d61ef38107849a4c6bbae99d892d2ecf6b0da01d4e23ddab0e90c6"), looks := true }, kinds := [], alts := [], laidByText := true, laidKinds := [.data, .data, .data, .data, .pinned], laidTests := true, laidLooks := .later }
def TraceqUnderUptoCardSaid : Prop := Claim7.holds Tryz.pinned (.plain (OpenSpec.upto traceqUnderSpec)) traceqUnderUptoCard

/-- THE SECOND FORM's CARD OF 'belfrylaw15.TraceqFits'. -/
def traceqFitsUptoCard : Claim7 := { stood := { row := traceqFitsUptoRow, standIns := [], harness := (true, "bdc5bbf885d61ef38107849a4c6bbae99d892d2ecf6b0da01d4e23ddab0e90c6"), looks := true }, kinds := [], alts := [], laidByText := true, laidKinds := [.data, .data, .data, .data, .pinned], laidTests := true, laidLooks := .later }
def TraceqFitsUptoCardSaid : Prop := Claim7.holds Tryz.pinned (.plain (OpenSpec.upto traceqFitsSpec)) traceqFitsUptoCard
end Rows
end Go.Proofs.YtdhmloejgoacaaaGreatDoor
