/-
  DERIVED. GIVEN WITH THE SEED: THE CARDS: each row of YtplidcbfbonjlaaDoorRows.lean that lists a variable, with what it lists TIED to the program's text (the seventh form; the later family's looks); each row that meets fmt, with fmt's text TOLD by the authors' own Lean function (tested against real Go, not proved from fmt's source: count such statements apart). THE CARD IS WHAT COUNTS. Prove the row's statement (the work); the ties are given (YtplidcbfbonjlaaDoorTie.lean); close each card by the builder's one call (the guide's Derived/Test/ToyasCard.lean, 'card_holds'). Laid BY PROGRAM, IN A SANDBOX (cutbox-door.mjs). By AI agents, Wed Nov 11 2026. No macro, syntax, notation, axiom, sorry.
-/
import Derived.Test.YtplidcbfbonjlaaDoorRows
import GoSem.ClaimSeven
namespace Go.Proofs.YtplidcbfbonjlaaDoor
namespace Rows

/-- THE TIED CARD OF 'colanderlaw20.HyperTrees'. -/
def hyperTreesCard : Claim7 := { stood := { row := hyperTreesRow, standIns := [], harness := (true, "42ba60662d54c2c8ef92bc7d249672548cdc8ed85c3aa1e4764085fa9bd9f558"), looks := false }, kinds := [], alts := [], laidByText := true, laidKinds := [.data], laidTests := true, laidLooks := .later }
def HyperTreesCardSaid : Prop := Claim7.holds Tryd.pinned (.plain (OpenSpec.ofChange hyperTreesSpec)) hyperTreesCard

/-- THE TIED CARD OF 'colanderlaw20.HyperMay'. -/
def hyperMayCard : Claim7 := { stood := { row := hyperMayRow, standIns := [], harness := (true, "42ba60662d54c2c8ef92bc7d249672548cdc8ed85c3aa1e4764085fa9bd9f558"), looks := false }, kinds := [], alts := [], laidByText := true, laidKinds := [.data], laidTests := true, laidLooks := .later }
def HyperMayCardSaid : Prop := Claim7.holds Tryd.pinned (.plain (OpenSpec.ofChange hyperMaySpec)) hyperMayCard

/-- THE TIED CARD OF 'colanderlaw20.HyperTells'. -/
def hyperTellsCard : Claim7 := { stood := { row := hyperTellsRow, standIns := [], harness := (true, "42ba60662d54c2c8ef92bc7d249672548cdc8ed85c3aa1e4764085fa9bd9f558"), looks := false }, kinds := [], alts := [], laidByText := true, laidKinds := [.data], laidTests := true, laidLooks := .later }
def HyperTellsCardSaid : Prop := Claim7.holds Tryd.pinned (.plain (OpenSpec.ofChange hyperTellsSpec)) hyperTellsCard

/-- THE TIED CARD OF 'colanderlaw20.HyperWhole'. -/
def hyperWholeCard : Claim7 := { stood := { row := hyperWholeRow, standIns := [], harness := (true, "42ba60662d54c2c8ef92bc7d249672548cdc8ed85c3aa1e4764085fa9bd9f558"), looks := false }, kinds := [], alts := [], laidByText := true, laidKinds := [.data], laidTests := true, laidLooks := .later }
def HyperWholeCardSaid : Prop := Claim7.holds Tryd.pinned (.plain (OpenSpec.ofChange hyperWholeSpec)) hyperWholeCard

/-- THE TIED CARD OF 'colanderlaw20.HyperParts'. -/
def hyperPartsCard : Claim7 := { stood := { row := hyperPartsRow, standIns := [], harness := (true, "42ba60662d54c2c8ef92bc7d249672548cdc8ed85c3aa1e4764085fa9bd9f558"), looks := false }, kinds := [], alts := [], laidByText := true, laidKinds := [.data], laidTests := true, laidLooks := .later }
def HyperPartsCardSaid : Prop := Claim7.holds Tryd.pinned (.plain (OpenSpec.ofChange hyperPartsSpec)) hyperPartsCard

/-- THE SECOND FORM's CARD OF 'colanderlaw20.HyperTrees'. -/
def hyperTreesUptoCard : Claim7 := { stood := { row := hyperTreesUptoRow, standIns := [], harness := (true, "42ba60662d54c2c8ef92bc7d249672548cdc8ed85c3aa1e4764085fa9bd9f558"), looks := false }, kinds := [], alts := [], laidByText := true, laidKinds := [.data], laidTests := true, laidLooks := .later }
def HyperTreesUptoCardSaid : Prop := Claim7.holds Tryd.pinned (.plain (OpenSpec.upto hyperTreesSpec)) hyperTreesUptoCard

/-- THE SECOND FORM's CARD OF 'colanderlaw20.HyperMay'. -/
def hyperMayUptoCard : Claim7 := { stood := { row := hyperMayUptoRow, standIns := [], harness := (true, "42ba60662d54c2c8ef92bc7d249672548cdc8ed85c3aa1e4764085fa9bd9f558"), looks := false }, kinds := [], alts := [], laidByText := true, laidKinds := [.data], laidTests := true, laidLooks := .later }
def HyperMayUptoCardSaid : Prop := Claim7.holds Tryd.pinned (.plain (OpenSpec.upto hyperMaySpec)) hyperMayUptoCard

/-- THE SECOND FORM's CARD OF 'colanderlaw20.HyperTells'. -/
def hyperTellsUptoCard : Claim7 := { stood := { row := hyperTellsUptoRow, standIns := [], harness := (true, "42ba60662d54c2c8ef92bc7d249672548cdc8ed85c3aa1e4764085fa9bd9f558"), looks := false }, kinds := [], alts := [], laidByText := true, laidKinds := [.data], laidTests := true, laidLooks := .later }
def HyperTellsUptoCardSaid : Prop := Claim7.holds Tryd.pinned (.plain (OpenSpec.upto hyperTellsSpec)) hyperTellsUptoCard

/-- THE SECOND FORM's CARD OF 'colanderlaw20.HyperWhole'. -/
def hyperWholeUptoCard : Claim7 := { stood := { row := hyperWholeUptoRow, standIns := [], harness := (true, "42ba60662d54c2c8ef92bc7d249672548cdc8ed85c3aa1e4764085fa9bd9f558"), looks := false }, kinds := [], alts := [], laidByText := true, laidKinds := [.data], laidTests := true, laidLooks := .later }
def HyperWholeUptoCardSaid : Prop := Claim7.holds Tryd.pinned (.plain (OpenSpec.upto hyperWholeSpec)) hyperWholeUptoCard

/-- THE SECOND FORM's CARD OF 'colanderlaw20.HyperParts'. -/
def hyperPartsUptoCard : Claim7 := { stood := { row := hyperPartsUptoRow, standIns := [], harness := (true, "42ba60662d54c2c8ef92bc7d249672548cdc8ed85c3aa1e4764085fa9bd9f558"), looks := false }, kinds := [], alts := [], laidByText := true, laidKinds := [.data], laidTests := true, laidLooks := .later }
def HyperPartsUptoCardSaid : Prop := Claim7.holds Tryd.pinned (.plain (OpenSpec.upto hyperPartsSpec)) hyperPartsUptoCard
end Rows
end Go.Proofs.YtplidcbfbonjlaaDoor
