/-
  DERIVED. GIVEN WITH THE SEED: THE CARDS: each row of YtofghbnaofcpdaaDoorRows.lean that lists a variable, with what it lists TIED to the program's text (the seventh form; the later family's looks); each row that meets fmt, with fmt's text TOLD by the authors' own Lean function (tested against real Go, not proved from fmt's source: count such statements apart). THE CARD IS WHAT COUNTS. Prove the row's statement (the work); the ties are given (YtofghbnaofcpdaaDoorTie.lean); close each card by the builder's one call (the guide's Derived/Test/ToyasCard.lean, 'card_holds'). Laid BY PROGRAM, IN A SANDBOX (cutbox-door.mjs). By AI agents, Wed Nov 11 2026. No macro, syntax, notation, axiom, sorry.
-/
import Derived.Test.YtofghbnaofcpdaaDoorRows
import GoSem.ClaimSeven
namespace Go.Proofs.YtofghbnaofcpdaaDoor
namespace Rows

/-- THE TIED CARD OF 'accesscontrollaw01.BitsetLists'. -/
def bitsetListsCard : Claim7 := { stood := { row := bitsetListsRow, standIns := [], harness := (true, "a390f529bf9627906b90811459e4e9e38804a3eb79258f7b9052fefe096adf4b"), looks := false }, kinds := [], alts := [], laidByText := true, laidKinds := [.data], laidTests := true, laidLooks := .later }
def BitsetListsCardSaid : Prop := Claim7.holds Tryd.pinned (.plain (OpenSpec.ofChange bitsetListsSpec)) bitsetListsCard

/-- THE TIED CARD OF 'accesscontrollaw01.BitsetEqual'. -/
def bitsetEqualCard : Claim7 := { stood := { row := bitsetEqualRow, standIns := [], harness := (true, "a390f529bf9627906b90811459e4e9e38804a3eb79258f7b9052fefe096adf4b"), looks := false }, kinds := [], alts := [], laidByText := true, laidKinds := [.data], laidTests := true, laidLooks := .later }
def BitsetEqualCardSaid : Prop := Claim7.holds Tryd.pinned (.plain (OpenSpec.ofChange bitsetEqualSpec)) bitsetEqualCard

/-- THE TIED CARD OF 'accesscontrollaw01.BitsetElements'. -/
def bitsetElementsCard : Claim7 := { stood := { row := bitsetElementsRow, standIns := [], harness := (true, "a390f529bf9627906b90811459e4e9e38804a3eb79258f7b9052fefe096adf4b"), looks := false }, kinds := [], alts := [], laidByText := true, laidKinds := [.data], laidTests := true, laidLooks := .later }
def BitsetElementsCardSaid : Prop := Claim7.holds Tryd.pinned (.plain (OpenSpec.ofChange bitsetElementsSpec)) bitsetElementsCard

/-- THE TIED CARD OF 'accesscontrollaw01.BitsetOperates'. -/
def bitsetOperatesCard : Claim7 := { stood := { row := bitsetOperatesRow, standIns := [], harness := (true, "a390f529bf9627906b90811459e4e9e38804a3eb79258f7b9052fefe096adf4b"), looks := false }, kinds := [], alts := [], laidByText := true, laidKinds := [.data], laidTests := true, laidLooks := .later }
def BitsetOperatesCardSaid : Prop := Claim7.holds Tryd.pinned (.plain (OpenSpec.ofChange bitsetOperatesSpec)) bitsetOperatesCard

/-- THE TIED CARD OF 'accesscontrollaw01.BitsetAlgebra'. -/
def bitsetAlgebraCard : Claim7 := { stood := { row := bitsetAlgebraRow, standIns := [], harness := (true, "a390f529bf9627906b90811459e4e9e38804a3eb79258f7b9052fefe096adf4b"), looks := false }, kinds := [], alts := [], laidByText := true, laidKinds := [.data], laidTests := true, laidLooks := .later }
def BitsetAlgebraCardSaid : Prop := Claim7.holds Tryd.pinned (.plain (OpenSpec.ofChange bitsetAlgebraSpec)) bitsetAlgebraCard

/-- THE SECOND FORM's CARD OF 'accesscontrollaw01.BitsetLists'. -/
def bitsetListsUptoCard : Claim7 := { stood := { row := bitsetListsUptoRow, standIns := [], harness := (true, "a390f529bf9627906b90811459e4e9e38804a3eb79258f7b9052fefe096adf4b"), looks := false }, kinds := [], alts := [], laidByText := true, laidKinds := [.data], laidTests := true, laidLooks := .later }
def BitsetListsUptoCardSaid : Prop := Claim7.holds Tryd.pinned (.plain (OpenSpec.upto bitsetListsSpec)) bitsetListsUptoCard

/-- THE SECOND FORM's CARD OF 'accesscontrollaw01.BitsetEqual'. -/
def bitsetEqualUptoCard : Claim7 := { stood := { row := bitsetEqualUptoRow, standIns := [], harness := (true, "a390f529bf9627906b90811459e4e9e38804a3eb79258f7b9052fefe096adf4b"), looks := false }, kinds := [], alts := [], laidByText := true, laidKinds := [.data], laidTests := true, laidLooks := .later }
def BitsetEqualUptoCardSaid : Prop := Claim7.holds Tryd.pinned (.plain (OpenSpec.upto bitsetEqualSpec)) bitsetEqualUptoCard

/-- THE SECOND FORM's CARD OF 'accesscontrollaw01.BitsetElements'. -/
def bitsetElementsUptoCard : Claim7 := { stood := { row := bitsetElementsUptoRow, standIns := [], harness := (true, "a390f529bf9627906b90811459e4e9e38804a3eb79258f7b9052fefe096adf4b"), looks := false }, kinds := [], alts := [], laidByText := true, laidKinds := [.data], laidTests := true, laidLooks := .later }
def BitsetElementsUptoCardSaid : Prop := Claim7.holds Tryd.pinned (.plain (OpenSpec.upto bitsetElementsSpec)) bitsetElementsUptoCard

/-- THE SECOND FORM's CARD OF 'accesscontrollaw01.BitsetOperates'. -/
def bitsetOperatesUptoCard : Claim7 := { stood := { row := bitsetOperatesUptoRow, standIns := [], harness := (true, "a390f529bf9627906b90811459e4e9e38804a3eb79258f7b9052fefe096adf4b"), looks := false }, kinds := [], alts := [], laidByText := true, laidKinds := [.data], laidTests := true, laidLooks := .later }
def BitsetOperatesUptoCardSaid : Prop := Claim7.holds Tryd.pinned (.plain (OpenSpec.upto bitsetOperatesSpec)) bitsetOperatesUptoCard

/-- THE SECOND FORM's CARD OF 'accesscontrollaw01.BitsetAlgebra'. -/
def bitsetAlgebraUptoCard : Claim7 := { stood := { row := bitsetAlgebraUptoRow, standIns := [], harness := (true, "a390f529bf9627906b90811459e4e9e38804a3eb79258f7b9052fefe096adf4b"), looks := false }, kinds := [], alts := [], laidByText := true, laidKinds := [.data], laidTests := true, laidLooks := .later }
def BitsetAlgebraUptoCardSaid : Prop := Claim7.holds Tryd.pinned (.plain (OpenSpec.upto bitsetAlgebraSpec)) bitsetAlgebraUptoCard
end Rows
end Go.Proofs.YtofghbnaofcpdaaDoor
