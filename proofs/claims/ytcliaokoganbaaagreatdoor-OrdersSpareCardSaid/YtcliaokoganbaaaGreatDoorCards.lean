/-
  DERIVED. GIVEN WITH THE SEED: THE CARDS: each row of YtcliaokoganbaaaGreatDoorRows.lean that lists a variable, with what it lists TIED to the program's text (the seventh form; the later family's looks); each row that meets fmt, with fmt's text TOLD by the authors' own Lean function (tested against real Go, not proved from fmt's source: count such statements apart). THE CARD IS WHAT COUNTS. Prove the row's statement (the work); the ties are given (YtcliaokoganbaaaGreatDoorTie.lean); close each card by the builder's one call (the guide's Derived/Test/ToyasCard.lean, 'card_holds'). Laid BY PROGRAM, IN A SANDBOX (cutbox-door.mjs). By AI agents, Wed Nov 11 2026. No macro, syntax, notation, axiom, sorry.
-/
import Derived.Test.YtcliaokoganbaaaGreatDoorRows
import GoSem.ClaimSeven
namespace Go.Proofs.YtcliaokoganbaaaGreatDoor
namespace Rows

/-- THE TIED CARD OF 'taquinlaw42.OrdersStates'. -/
def ordersStatesCard : Claim7 := { stood := { row := ordersStatesRow, standIns := [], harness := (true, "c1c1377b12a091589a0f16544fc77d50b43a524a876f86a65619743f2ec4e7a2"), looks := true }, kinds := [], alts := [], laidByText := true, laidKinds := [.data, .data, .data, .sentinel, .sentinel], laidTests := true, laidLooks := .later }
def OrdersStatesCardSaid : Prop := Claim7.holds Tryz.pinned (.plain (OpenSpec.ofChange ordersStatesSpec)) ordersStatesCard

/-- THE TIED CARD OF 'taquinlaw42.OrdersSpare'. -/
def ordersSpareCard : Claim7 := { stood := { row := ordersSpareRow, standIns := [], harness := (true, "c1c1377b12a091589a0f16544fc77d50b43a524a876f86a65619743f2ec4e7a2"), looks := true }, kinds := [], alts := [], laidByText := true, laidKinds := [.data, .data, .data, .sentinel, .sentinel], laidTests := true, laidLooks := .later }
def OrdersSpareCardSaid : Prop := Claim7.holds Tryz.pinned (.plain (OpenSpec.ofChange ordersSpareSpec)) ordersSpareCard

/-- THE TIED CARD OF 'taquinlaw42.OrdersCovered'. -/
def ordersCoveredCard : Claim7 := { stood := { row := ordersCoveredRow, standIns := [], harness := (true, "c1c1377b12a091589a0f16544fc77d50b43a524a876f86a65619743f2ec4e7a2"), looks := true }, kinds := [], alts := [], laidByText := true, laidKinds := [.data, .data, .data, .sentinel, .sentinel], laidTests := true, laidLooks := .later }
def OrdersCoveredCardSaid : Prop := Claim7.holds Tryz.pinned (.plain (OpenSpec.ofChange ordersCoveredSpec)) ordersCoveredCard

/-- THE TIED CARD OF 'taquinlaw42.OrdersTells'. -/
def ordersTellsCard : Claim7 := { stood := { row := ordersTellsRow, standIns := [], harness := (true, "c1c1377b12a091589a0f16544fc77d50b43a524a876f86a65619743f2ec4e7a2"), looks := true }, kinds := [], alts := [], laidByText := true, laidKinds := [.data, .data, .data, .sentinel, .sentinel], laidTests := true, laidLooks := .later }
def OrdersTellsCardSaid : Prop := Claim7.holds Tryz.pinned (.plain (OpenSpec.ofChange ordersTellsSpec)) ordersTellsCard

/-- THE SECOND FORM's CARD OF 'taquinlaw42.OrdersStates'. -/
def ordersStatesUptoCard : Claim7 := { stood := { row := ordersStatesUptoRow, standIns := [], harness := (true, "c1c1377b12a091589a0f16544fc77d50b43a524a876f86a65619743f2ec4e7a2"), looks := true }, kinds := [], alts := [], laidByText := true, laidKinds := [.data, .data, .data, .sentinel, .sentinel], laidTests := true, laidLooks := .later }
def OrdersStatesUptoCardSaid : Prop := Claim7.holds Tryz.pinned (.plain (OpenSpec.upto ordersStatesSpec)) ordersStatesUptoCard

/-- THE SECOND FORM's CARD OF 'taquinlaw42.OrdersSpare'. -/
def ordersSpareUptoCard : Claim7 := { stood := { row := ordersSpareUptoRow, standIns := [], harness := (true, "c1c1377b12a091589a0f16544fc77d50b43a524a876f86a65619743f2ec4e7a2"), looks := true }, kinds := [], alts := [], laidByText := true, laidKinds := [.data, .data, .data, .sentinel, .sentinel], laidTests := true, laidLooks := .later }
def OrdersSpareUptoCardSaid : Prop := Claim7.holds Tryz.pinned (.plain (OpenSpec.upto ordersSpareSpec)) ordersSpareUptoCard

/-- THE SECOND FORM's CARD OF 'taquinlaw42.OrdersCovered'. -/
def ordersCoveredUptoCard : Claim7 := { stood := { row := ordersCoveredUptoRow, standIns := [], harness := (true, "c1c1377b12a091589a0f16544fc77d50b43a524a876f86a65619743f2ec4e7a2"), looks := true }, kinds := [], alts := [], laidByText := true, laidKinds := [.data, .data, .data, .sentinel, .sentinel], laidTests := true, laidLooks := .later }
def OrdersCoveredUptoCardSaid : Prop := Claim7.holds Tryz.pinned (.plain (OpenSpec.upto ordersCoveredSpec)) ordersCoveredUptoCard

/-- THE SECOND FORM's CARD OF 'taquinlaw42.OrdersTells'. -/
def ordersTellsUptoCard : Claim7 := { stood := { row := ordersTellsUptoRow, standIns := [], harness := (true, "c1c1377b12a091589a0f16544fc77d50b43a524a876f86a65619743f2ec4e7a2"), looks := true }, kinds := [], alts := [], laidByText := true, laidKinds := [.data, .data, .data, .sentinel, .sentinel], laidTests := true, laidLooks := .later }
def OrdersTellsUptoCardSaid : Prop := Claim7.holds Tryz.pinned (.plain (OpenSpec.upto ordersTellsSpec)) ordersTellsUptoCard
end Rows
end Go.Proofs.YtcliaokoganbaaaGreatDoor
