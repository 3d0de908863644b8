/-
  DERIVED. GIVEN WITH THE SEED: THE CARDS: each row of YtafialodjnjihaaDoorRows.lean that lists a variable, with what it lists TIED to the program's text (the seventh form; the later family's looks); each row that meets fmt, with fmt's text TOLD by the authors' own Lean function (tested against real Go, not proved from fmt's source: count such statements apart). THE CARD IS WHAT COUNTS. Prove the row's statement (the work); the ties are given (YtafialodjnjihaaDoorTie.lean); close each card by the builder's one call (the guide's Derived/Test/ToyasCard.lean, 'card_holds'). Laid BY PROGRAM, IN A SANDBOX (cutbox-door.mjs). By AI agents, Wed Nov 11 2026. No macro, syntax, notation, axiom, sorry.
-/
import Derived.Test.YtafialodjnjihaaDoorRows
import GoSem.ClaimSeven
namespace Go.Proofs.YtafialodjnjihaaDoor
namespace Rows

/-- THE TIED CARD OF 'fasciclelaw04.ValueMay'. -/
def valueMayCard : Claim7 := { stood := { row := valueMayRow, standIns := [], harness := (true, "a8c4917a581a5af6f7aebf3516a911f2eb1f1d33d9f42a23d800d3c157e2a97e"), looks := false }, kinds := [], alts := [], laidByText := true, laidKinds := [.data, .pinned], laidTests := true, laidLooks := .later }
def ValueMayCardSaid : Prop := Claim7.holds Tryd.pinned (.plain (OpenSpec.ofChange valueMaySpec)) valueMayCard

/-- THE TIED CARD OF 'fasciclelaw04.ValueMakes'. -/
def valueMakesCard : Claim7 := { stood := { row := valueMakesRow, standIns := [], harness := (true, "a8c4917a581a5af6f7aebf3516a911f2eb1f1d33d9f42a23d800d3c157e2a97e"), looks := false }, kinds := [], alts := [], laidByText := true, laidKinds := [.data, .pinned], laidTests := true, laidLooks := .later }
def ValueMakesCardSaid : Prop := Claim7.holds Tryd.pinned (.plain (OpenSpec.ofChange valueMakesSpec)) valueMakesCard

/-- THE TIED CARD OF 'fasciclelaw04.ValueFloats'. -/
def valueFloatsCard : Claim7 := { stood := { row := valueFloatsRow, standIns := [], harness := (true, "a8c4917a581a5af6f7aebf3516a911f2eb1f1d33d9f42a23d800d3c157e2a97e"), looks := false }, kinds := [], alts := [], laidByText := true, laidKinds := [.data, .pinned], laidTests := true, laidLooks := .later }
def ValueFloatsCardSaid : Prop := Claim7.holds Tryd.pinned (.plain (OpenSpec.ofChange valueFloatsSpec)) valueFloatsCard

/-- THE TIED CARD OF 'fasciclelaw04.ValueLine'. -/
def valueLineCard : Claim7 := { stood := { row := valueLineRow, standIns := [], harness := (true, "a8c4917a581a5af6f7aebf3516a911f2eb1f1d33d9f42a23d800d3c157e2a97e"), looks := false }, kinds := [], alts := [], laidByText := true, laidKinds := [.data, .pinned], laidTests := true, laidLooks := .later }
def ValueLineCardSaid : Prop := Claim7.holds Tryd.pinned (.plain (OpenSpec.ofChange valueLineSpec)) valueLineCard

/-- THE TIED CARD OF 'fasciclelaw06.KeyTells'. -/
def keyTellsCard : Claim7 := { stood := { row := keyTellsRow, standIns := [], harness := (true, "a8c4917a581a5af6f7aebf3516a911f2eb1f1d33d9f42a23d800d3c157e2a97e"), looks := false }, kinds := [], alts := [], laidByText := true, laidKinds := [.data, .pinned], laidTests := true, laidLooks := .later }
def KeyTellsCardSaid : Prop := Claim7.holds Tryd.pinned (.plain (OpenSpec.ofChange keyTellsSpec)) keyTellsCard

/-- THE TIED CARD OF 'fasciclelaw06.KeyBack'. -/
def keyBackCard : Claim7 := { stood := { row := keyBackRow, standIns := [], harness := (true, "a8c4917a581a5af6f7aebf3516a911f2eb1f1d33d9f42a23d800d3c157e2a97e"), looks := false }, kinds := [], alts := [], laidByText := true, laidKinds := [.data, .pinned], laidTests := true, laidLooks := .later }
def KeyBackCardSaid : Prop := Claim7.holds Tryd.pinned (.plain (OpenSpec.ofChange keyBackSpec)) keyBackCard

/-- THE TIED CARD OF 'fasciclelaw06.KeyAfter'. -/
def keyAfterCard : Claim7 := { stood := { row := keyAfterRow, standIns := [], harness := (true, "a8c4917a581a5af6f7aebf3516a911f2eb1f1d33d9f42a23d800d3c157e2a97e"), looks := false }, kinds := [], alts := [], laidByText := true, laidKinds := [.data, .pinned], laidTests := true, laidLooks := .later }
def KeyAfterCardSaid : Prop := Claim7.holds Tryd.pinned (.plain (OpenSpec.ofChange keyAfterSpec)) keyAfterCard

/-- THE TIED CARD OF 'fasciclelaw06.KeyOrders'. -/
def keyOrdersCard : Claim7 := { stood := { row := keyOrdersRow, standIns := [], harness := (true, "a8c4917a581a5af6f7aebf3516a911f2eb1f1d33d9f42a23d800d3c157e2a97e"), looks := false }, kinds := [], alts := [], laidByText := true, laidKinds := [.data, .pinned], laidTests := true, laidLooks := .later }
def KeyOrdersCardSaid : Prop := Claim7.holds Tryd.pinned (.plain (OpenSpec.ofChange keyOrdersSpec)) keyOrdersCard

/-- THE SECOND FORM's CARD OF 'fasciclelaw04.ValueMay'. -/
def valueMayUptoCard : Claim7 := { stood := { row := valueMayUptoRow, standIns := [], harness := (true, "a8c4917a581a5af6f7aebf3516a911f2eb1f1d33d9f42a23d800d3c157e2a97e"), looks := false }, kinds := [], alts := [], laidByText := true, laidKinds := [.data, .pinned], laidTests := true, laidLooks := .later }
def ValueMayUptoCardSaid : Prop := Claim7.holds Tryd.pinned (.plain (OpenSpec.upto valueMaySpec)) valueMayUptoCard

/-- THE SECOND FORM's CARD OF 'fasciclelaw04.ValueMakes'. -/
def valueMakesUptoCard : Claim7 := { stood := { row := valueMakesUptoRow, standIns := [], harness := (true, "a8c4917a581a5af6f7aebf3516a911f2eb1f1d33d9f42a23d800d3c157e2a97e"), looks := false }, kinds := [], alts := [], laidByText := true, laidKinds := [.data, .pinned], laidTests := true, laidLooks := .later }
def ValueMakesUptoCardSaid : Prop := Claim7.holds Tryd.pinned (.plain (OpenSpec.upto valueMakesSpec)) valueMakesUptoCard

/-- THE SECOND FORM's CARD OF 'fasciclelaw04.ValueFloats'. -/
def valueFloatsUptoCard : Claim7 := { stood := { row := valueFloatsUptoRow, standIns := [], harness := (true, "a8c4917a581a5af6f7aebf3516a911f2eb1f1d33d9f42a23d800d3c157e2a97e"), looks := false }, kinds := [], alts := [], laidByText := true, laidKinds := [.data, .pinned], laidTests := true, laidLooks := .later }
def ValueFloatsUptoCardSaid : Prop := Claim7.holds Tryd.pinned (.plain (OpenSpec.upto valueFloatsSpec)) valueFloatsUptoCard

/-- THE SECOND FORM's CARD OF 'fasciclelaw04.ValueLine'. -/
def valueLineUptoCard : Claim7 := { stood := { row := valueLineUptoRow, standIns := [], harness := (true, "a8c4917a581a5af6f7aebf3516a911f2eb1f1d33d9f42a23d800d3c157e2a97e"), looks := false }, kinds := [], alts := [], laidByText := true, laidKinds := [.data, .pinned], laidTests := true, laidLooks := .later }
def ValueLineUptoCardSaid : Prop := Claim7.holds Tryd.pinned (.plain (OpenSpec.upto valueLineSpec)) valueLineUptoCard

/-- THE SECOND FORM's CARD OF 'fasciclelaw06.KeyTells'. -/
def keyTellsUptoCard : Claim7 := { stood := { row := keyTellsUptoRow, standIns := [], harness := (true, "a8c4917a581a5af6f7aebf3516a911f2eb1f1d33d9f42a23d800d3c157e2a97e"), looks := false }, kinds := [], alts := [], laidByText := true, laidKinds := [.data, .pinned], laidTests := true, laidLooks := .later }
def KeyTellsUptoCardSaid : Prop := Claim7.holds Tryd.pinned (.plain (OpenSpec.upto keyTellsSpec)) keyTellsUptoCard

/-- THE SECOND FORM's CARD OF 'fasciclelaw06.KeyBack'. -/
def keyBackUptoCard : Claim7 := { stood := { row := keyBackUptoRow, standIns := [], harness := (true, "a8c4917a581a5af6f7aebf3516a911f2eb1f1d33d9f42a23d800d3c157e2a97e"), looks := false }, kinds := [], alts := [], laidByText := true, laidKinds := [.data, .pinned], laidTests := true, laidLooks := .later }
def KeyBackUptoCardSaid : Prop := Claim7.holds Tryd.pinned (.plain (OpenSpec.upto keyBackSpec)) keyBackUptoCard

/-- THE SECOND FORM's CARD OF 'fasciclelaw06.KeyAfter'. -/
def keyAfterUptoCard : Claim7 := { stood := { row := keyAfterUptoRow, standIns := [], harness := (true, "a8c4917a581a5af6f7aebf3516a911f2eb1f1d33d9f42a23d800d3c157e2a97e"), looks := false }, kinds := [], alts := [], laidByText := true, laidKinds := [.data, .pinned], laidTests := true, laidLooks := .later }
def KeyAfterUptoCardSaid : Prop := Claim7.holds Tryd.pinned (.plain (OpenSpec.upto keyAfterSpec)) keyAfterUptoCard

/-- THE SECOND FORM's CARD OF 'fasciclelaw06.KeyOrders'. -/
def keyOrdersUptoCard : Claim7 := { stood := { row := keyOrdersUptoRow, standIns := [], harness := (true, "a8c4917a581a5af6f7aebf3516a911f2eb1f1d33d9f42a23d800d3c157e2a97e"), looks := false }, kinds := [], alts := [], laidByText := true, laidKinds := [.data, .pinned], laidTests := true, laidLooks := .later }
def KeyOrdersUptoCardSaid : Prop := Claim7.holds Tryd.pinned (.plain (OpenSpec.upto keyOrdersSpec)) keyOrdersUptoCard
end Rows
end Go.Proofs.YtafialodjnjihaaDoor
