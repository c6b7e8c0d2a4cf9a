/-
  DERIVED. GIVEN WITH THE SEED: THE CARDS: each row of YtlbgijgciajamaaGreatDoorRows.lean that lists a variable, with what it lists TIED to the program's text (the seventh form; the later family's looks); each row that meets fmt, with fmt's text TOLD by the authors' own Lean function (tested against real Go, not proved from fmt's source: count such statements apart). THE CARD IS WHAT COUNTS. Prove the row's statement (the work); the ties are given (YtlbgijgciajamaaGreatDoorTie.lean); close each card by the builder's one call (the guide's Derived/Test/ToyasCard.lean, 'card_holds'). Laid BY PROGRAM, IN A SANDBOX (cutbox-door.mjs). By AI agents, Wed Nov 11 2026. No macro, syntax, notation, axiom, sorry.
-/
import Derived.Test.YtlbgijgciajamaaGreatDoorRows
import GoSem.ClaimSeven
namespace Go.Proofs.YtlbgijgciajamaaGreatDoor
namespace Rows

/-- THE TIED CARD OF 'passimlaw30.ReferOf'. -/
def referOfCard : Claim7 := { stood := { row := referOfRow, standIns := [], harness := (true, "3e759b5312ece3e4919b3241d764377c6f0d20f094150ebbb1d5f9ffa637ed35"), looks := false }, kinds := [], alts := [], laidByText := true, laidKinds := [.data, .pinned], laidTests := true, laidLooks := .later }
def ReferOfCardSaid : Prop := Claim7.holds Tryz.pinned (.plain (OpenSpec.ofChange referOfSpec)) referOfCard

/-- THE TIED CARD OF 'passimlaw30.ReferTerms'. -/
def referTermsCard : Claim7 := { stood := { row := referTermsRow, standIns := [], harness := (true, "3e759b5312ece3e4919b3241d764377c6f0d20f094150ebbb1d5f9ffa637ed35"), looks := false }, kinds := [], alts := [], laidByText := true, laidKinds := [.data, .pinned], laidTests := true, laidLooks := .later }
def ReferTermsCardSaid : Prop := Claim7.holds Tryz.pinned (.plain (OpenSpec.ofChange referTermsSpec)) referTermsCard

/-- THE SECOND FORM's CARD OF 'passimlaw30.ReferOf'. -/
def referOfUptoCard : Claim7 := { stood := { row := referOfUptoRow, standIns := [], harness := (true, "3e759b5312ece3e4919b3241d764377c6f0d20f094150ebbb1d5f9ffa637ed35"), looks := false }, kinds := [], alts := [], laidByText := true, laidKinds := [.data, .pinned], laidTests := true, laidLooks := .later }
def ReferOfUptoCardSaid : Prop := Claim7.holds Tryz.pinned (.plain (OpenSpec.upto referOfSpec)) referOfUptoCard

/-- THE SECOND FORM's CARD OF 'passimlaw30.ReferTerms'. -/
def referTermsUptoCard : Claim7 := { stood := { row := referTermsUptoRow, standIns := [], harness := (true, "3e759b5312ece3e4919b3241d764377c6f0d20f094150ebbb1d5f9ffa637ed35"), looks := false }, kinds := [], alts := [], laidByText := true, laidKinds := [.data, .pinned], laidTests := true, laidLooks := .later }
def ReferTermsUptoCardSaid : Prop := Claim7.holds Tryz.pinned (.plain (OpenSpec.upto referTermsSpec)) referTermsUptoCard
end Rows
end Go.Proofs.YtlbgijgciajamaaGreatDoor
