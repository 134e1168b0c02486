/-
  DERIVED. GIVEN WITH THE SEED: THE CARDS: each row of YtaniaknphjnlkaaGreatDoorRows.lean that lists a variable, with what it lists TIED to the program's text (the seventh form; the later family's looks); each row that meets fmt, with fmt's text TOLD by the authors' own Lean function (tested against real Go, not proved from fmt's source: count such statements apart). THE CARD IS WHAT COUNTS. Prove the row's statement (the work); the ties are given (YtaniaknphjnlkaaGreatDoorTie.lean); close each card by the builder's one call (the guide's Derived/Test/ToyasCard.lean, 'card_holds'). Laid BY PROGRAM, IN A SANDBOX (cutbox-door.mjs). By AI agents, Wed Nov 11 2026. No macro, syntax, notation, axiom, sorry.
-/
import Derived.Test.YtaniaknphjnlkaaGreatDoorRows
import GoSem.ClaimSeven
namespace Go.Proofs.YtaniaknphjnlkaaGreatDoor
namespace Rows

/-- THE TIED CARD OF 'belfrylaw14.LogqBack'. -/
def logqBackCard : Claim7 := { stood := { row := logqBackRow, standIns := [], harness := (true, "9add5958e00c42a375b0c03e2391241db656bffd7136123bf959d0762ab801a4"), looks := true }, kinds := [], alts := [], laidByText := true, laidKinds := [.data, .data, .data, .data, .sentinel, .sentinel, .pinned], laidTests := true, laidLooks := .later }
def LogqBackCardSaid : Prop := Claim7.holds Tryz.pinned (.plain (OpenSpec.ofChange logqBackSpec)) logqBackCard

/-- THE TIED CARD OF 'belfrylaw14.LogqWrites'. -/
def logqWritesCard : Claim7 := { stood := { row := logqWritesRow, standIns := [], harness := (true, "9add5958e00c42a375b0c03e2391241db656bffd7136123bf959d0762ab801a4"), looks := true }, kinds := [], alts := [], laidByText := true, laidKinds := [.data, .data, .data, .data, .sentinel, .sentinel, .pinned], laidTests := true, laidLooks := .later }
def LogqWritesCardSaid : Prop := Claim7.holds Tryz.pinned (.plain (OpenSpec.ofChange logqWritesSpec)) logqWritesCard

/-- THE TIED CARD OF 'belfrylaw14.LogqFits'. -/
def logqFitsCard : Claim7 := { stood := { row := logqFitsRow, standIns := [], harness := (true, "9add5958e00c42a375b0c03e2391241db656bffd7136123bf959d0762ab801a4"), looks := true }, kinds := [], alts := [], laidByText := true, laidKinds := [.data, .data, .data, .data, .sentinel, .sentinel, .pinned], laidTests := true, laidLooks := .later }
def LogqFitsCardSaid : Prop := Claim7.holds Tryz.pinned (.plain (OpenSpec.ofChange logqFitsSpec)) logqFitsCard

/-- THE SECOND FORM's CARD OF 'belfrylaw14.LogqBack'. -/
def logqBackUptoCard : Claim7 := { stood := { row := logqBackUptoRow, standIns := [], harness := (true, "9add5958e00c42a375b0c03e2391241db656bffd7136123bf959d0762ab801a4"), looks := true }, kinds := [], alts := [], laidByText := true, laidKinds := [.data, .data, .data, .data, .sentinel, .sentinel, .pinned], laidTests := true, laidLooks := .later }
def LogqBackUptoCardSaid : Prop := Claim7.holds Tryz.pinned (.plain (OpenSpec.upto logqBackSpec)) logqBackUptoCard

/-- THE SECOND FORM's CARD OF 'belfrylaw14.LogqWrites'. -/
def logqWritesUptoCard : Claim7 := { stood := { row := logqWritesUptoRow, standIns := [], harness := (true, "9add5958e00c42a375b0c03e2391241db656bffd7136123bf959d0762ab801a4"), looks := true }, kinds := [], alts := [], laidByText := true, laidKinds := [.data, .data, .data, .data, .sentinel, .sentinel, .pinned], laidTests := true, laidLooks := .later }
def LogqWritesUptoCardSaid : Prop := Claim7.holds Tryz.pinned (.plain (OpenSpec.upto logqWritesSpec)) logqWritesUptoCard

/-- THE SECOND FORM's CARD OF 'belfrylaw14.LogqFits'. -/
def logqFitsUptoCard : Claim7 := { stood := { row := logqFitsUptoRow, standIns := [], harness := (true, "9add5958e00c42a375b0c03e2391241db656bffd7136123bf959d0762ab801a4"), looks := true }, kinds := [], alts := [], laidByText := true, laidKinds := [.data, .data, .data, .data, .sentinel, .sentinel, .pinned], laidTests := true, laidLooks := .later }
def LogqFitsUptoCardSaid : Prop := Claim7.holds Tryz.pinned (.plain (OpenSpec.upto logqFitsSpec)) logqFitsUptoCard
end Rows
end Go.Proofs.YtaniaknphjnlkaaGreatDoor
