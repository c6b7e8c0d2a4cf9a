/-
  DERIVED. GIVEN WITH THE SEED: THE CARDS: each row of YtdfnfimajhagfaaGreatDoorRows.lean that lists a variable, with what it lists TIED to the program's text (the seventh form; the later family's looks); each row that meets fmt, with fmt's text TOLD by the authors' own Lean function (tested against real Go, not proved from fmt's source: count such statements apart). THE CARD IS WHAT COUNTS. Prove the row's statement (the work); the ties are given (YtdfnfimajhagfaaGreatDoorTie.lean); close each card by the builder's one call (the guide's Derived/Test/ToyasCard.lean, 'card_holds'). Laid BY PROGRAM, IN A SANDBOX (cutbox-door.mjs). By AI agents, Wed Nov 11 2026. No macro, syntax, notation, axiom, sorry.
-/
import Derived.Test.YtdfnfimajhagfaaGreatDoorRows
import GoSem.ClaimSeven
namespace Go.Proofs.YtdfnfimajhagfaaGreatDoor
namespace Rows

/-- THE TIED CARD OF 'passimlaw24.VocabularyValid'. -/
def vocabularyValidCard : Claim7 := { stood := { row := vocabularyValidRow, standIns := [], harness := (true, "d7eb4ef644979f31f9e8754455a1256fd9c7480780f76f96567fe13faa96c998"), looks := false }, kinds := [], alts := [], laidByText := true, laidKinds := [.data, .pinned], laidTests := true, laidLooks := .later }
def VocabularyValidCardSaid : Prop := Claim7.holds Tryz.pinned (.plain (OpenSpec.ofChange vocabularyValidSpec)) vocabularyValidCard

/-- THE TIED CARD OF 'passimlaw24.VocabularyAdds'. -/
def vocabularyAddsCard : Claim7 := { stood := { row := vocabularyAddsRow, standIns := [], harness := (true, "d7eb4ef644979f31f9e8754455a1256fd9c7480780f76f96567fe13faa96c998"), looks := false }, kinds := [], alts := [], laidByText := true, laidKinds := [.data, .pinned], laidTests := true, laidLooks := .later }
def VocabularyAddsCardSaid : Prop := Claim7.holds Tryz.pinned (.plain (OpenSpec.ofChange vocabularyAddsSpec)) vocabularyAddsCard

/-- THE TIED CARD OF 'passimlaw24.VocabularyMentions'. -/
def vocabularyMentionsCard : Claim7 := { stood := { row := vocabularyMentionsRow, standIns := [], harness := (true, "d7eb4ef644979f31f9e8754455a1256fd9c7480780f76f96567fe13faa96c998"), looks := false }, kinds := [], alts := [], laidByText := true, laidKinds := [.data, .pinned], laidTests := true, laidLooks := .later }
def VocabularyMentionsCardSaid : Prop := Claim7.holds Tryz.pinned (.plain (OpenSpec.ofChange vocabularyMentionsSpec)) vocabularyMentionsCard

/-- THE TIED CARD OF 'passimlaw24.VocabularyNames'. -/
def vocabularyNamesCard : Claim7 := { stood := { row := vocabularyNamesRow, standIns := [], harness := (true, "d7eb4ef644979f31f9e8754455a1256fd9c7480780f76f96567fe13faa96c998"), looks := false }, kinds := [], alts := [], laidByText := true, laidKinds := [.data, .pinned], laidTests := true, laidLooks := .later }
def VocabularyNamesCardSaid : Prop := Claim7.holds Tryz.pinned (.plain (OpenSpec.ofChange vocabularyNamesSpec)) vocabularyNamesCard

/-- THE TIED CARD OF 'passimlaw24.VocabularyFound'. -/
def vocabularyFoundCard : Claim7 := { stood := { row := vocabularyFoundRow, standIns := [], harness := (true, "d7eb4ef644979f31f9e8754455a1256fd9c7480780f76f96567fe13faa96c998"), looks := false }, kinds := [], alts := [], laidByText := true, laidKinds := [.data, .pinned], laidTests := true, laidLooks := .later }
def VocabularyFoundCardSaid : Prop := Claim7.holds Tryz.pinned (.plain (OpenSpec.ofChange vocabularyFoundSpec)) vocabularyFoundCard

/-- THE TIED CARD OF 'passimlaw24.VocabularyOrders'. -/
def vocabularyOrdersCard : Claim7 := { stood := { row := vocabularyOrdersRow, standIns := [], harness := (true, "d7eb4ef644979f31f9e8754455a1256fd9c7480780f76f96567fe13faa96c998"), looks := false }, kinds := [], alts := [], laidByText := true, laidKinds := [.data, .pinned], laidTests := true, laidLooks := .later }
def VocabularyOrdersCardSaid : Prop := Claim7.holds Tryz.pinned (.plain (OpenSpec.ofChange vocabularyOrdersSpec)) vocabularyOrdersCard

/-- THE TIED CARD OF 'passimlaw24.VocabularyBytes'. -/
def vocabularyBytesCard : Claim7 := { stood := { row := vocabularyBytesRow, standIns := [], harness := (true, "d7eb4ef644979f31f9e8754455a1256fd9c7480780f76f96567fe13faa96c998"), looks := false }, kinds := [], alts := [], laidByText := true, laidKinds := [.data, .pinned], laidTests := true, laidLooks := .later }
def VocabularyBytesCardSaid : Prop := Claim7.holds Tryz.pinned (.plain (OpenSpec.ofChange vocabularyBytesSpec)) vocabularyBytesCard

/-- THE TIED CARD OF 'passimlaw30.ReferOf'. -/
def referOfCard : Claim7 := { stood := { row := referOfRow, standIns := [], harness := (true, "d7eb4ef644979f31f9e8754455a1256fd9c7480780f76f96567fe13faa96c998"), looks := false }, kinds := [], alts := [], laidByText := true, laidKinds := [.data, .pinned], laidTests := true, laidLooks := .later }
def ReferOfCardSaid : Prop := Claim7.holds Tryz.pinned (.plain (OpenSpec.ofChange referOfSpec)) referOfCard

/-- THE SECOND FORM's CARD OF 'passimlaw24.VocabularyValid'. -/
def vocabularyValidUptoCard : Claim7 := { stood := { row := vocabularyValidUptoRow, standIns := [], harness := (true, "d7eb4ef644979f31f9e8754455a1256fd9c7480780f76f96567fe13faa96c998"), looks := false }, kinds := [], alts := [], laidByText := true, laidKinds := [.data, .pinned], laidTests := true, laidLooks := .later }
def VocabularyValidUptoCardSaid : Prop := Claim7.holds Tryz.pinned (.plain (OpenSpec.upto vocabularyValidSpec)) vocabularyValidUptoCard

/-- THE SECOND FORM's CARD OF 'passimlaw24.VocabularyAdds'. -/
def vocabularyAddsUptoCard : Claim7 := { stood := { row := vocabularyAddsUptoRow, standIns := [], harness := (true, "d7eb4ef644979f31f9e8754455a1256fd9c7480780f76f96567fe13faa96c998"), looks := false }, kinds := [], alts := [], laidByText := true, laidKinds := [.data, .pinned], laidTests := true, laidLooks := .later }
def VocabularyAddsUptoCardSaid : Prop := Claim7.holds Tryz.pinned (.plain (OpenSpec.upto vocabularyAddsSpec)) vocabularyAddsUptoCard

/-- THE SECOND FORM's CARD OF 'passimlaw24.VocabularyMentions'. -/
def vocabularyMentionsUptoCard : Claim7 := { stood := { row := vocabularyMentionsUptoRow, standIns := [], harness := (true, "d7eb4ef644979f31f9e8754455a1256fd9c7480780f76f96567fe13faa96c998"), looks := false }, kinds := [], alts := [], laidByText := true, laidKinds := [.data, .pinned], laidTests := true, laidLooks := .later }
def VocabularyMentionsUptoCardSaid : Prop := Claim7.holds Tryz.pinned (.plain (OpenSpec.upto vocabularyMentionsSpec)) vocabularyMentionsUptoCard

/-- THE SECOND FORM's CARD OF 'passimlaw24.VocabularyNames'. -/
def vocabularyNamesUptoCard : Claim7 := { stood := { row := vocabularyNamesUptoRow, standIns := [], harness := (true, "d7eb4ef644979f31f9e8754455a1256fd9c7480780f76f96567fe13faa96c998"), looks := false }, kinds := [], alts := [], laidByText := true, laidKinds := [.data, .pinned], laidTests := true, laidLooks := .later }
def VocabularyNamesUptoCardSaid : Prop := Claim7.holds Tryz.pinned (.plain (OpenSpec.upto vocabularyNamesSpec)) vocabularyNamesUptoCard

/-- THE SECOND FORM's CARD OF 'passimlaw24.VocabularyFound'. -/
def vocabularyFoundUptoCard : Claim7 := { stood := { row := vocabularyFoundUptoRow, standIns := [], harness := (true, "d7eb4ef644979f31f9e8754455a1256fd9c7480780f76f96567fe13faa96c998"), looks := false }, kinds := [], alts := [], laidByText := true, laidKinds := [.data, .pinned], laidTests := true, laidLooks := .later }
def VocabularyFoundUptoCardSaid : Prop := Claim7.holds Tryz.pinned (.plain (OpenSpec.upto vocabularyFoundSpec)) vocabularyFoundUptoCard

/-- THE SECOND FORM's CARD OF 'passimlaw24.VocabularyOrders'. -/
def vocabularyOrdersUptoCard : Claim7 := { stood := { row := vocabularyOrdersUptoRow, standIns := [], harness := (true, "d7eb4ef644979f31f9e8754455a1256fd9c7480780f76f96567fe13faa96c998"), looks := false }, kinds := [], alts := [], laidByText := true, laidKinds := [.data, .pinned], laidTests := true, laidLooks := .later }
def VocabularyOrdersUptoCardSaid : Prop := Claim7.holds Tryz.pinned (.plain (OpenSpec.upto vocabularyOrdersSpec)) vocabularyOrdersUptoCard

/-- THE SECOND FORM's CARD OF 'passimlaw24.VocabularyBytes'. -/
def vocabularyBytesUptoCard : Claim7 := { stood := { row := vocabularyBytesUptoRow, standIns := [], harness := (true, "d7eb4ef644979f31f9e8754455a1256fd9c7480780f76f96567fe13faa96c998"), looks := false }, kinds := [], alts := [], laidByText := true, laidKinds := [.data, .pinned], laidTests := true, laidLooks := .later }
def VocabularyBytesUptoCardSaid : Prop := Claim7.holds Tryz.pinned (.plain (OpenSpec.upto vocabularyBytesSpec)) vocabularyBytesUptoCard

/-- THE SECOND FORM's CARD OF 'passimlaw30.ReferOf'. -/
def referOfUptoCard : Claim7 := { stood := { row := referOfUptoRow, standIns := [], harness := (true, "d7eb4ef644979f31f9e8754455a1256fd9c7480780f76f96567fe13faa96c998"), looks := false }, kinds := [], alts := [], laidByText := true, laidKinds := [.data, .pinned], laidTests := true, laidLooks := .later }
def ReferOfUptoCardSaid : Prop := Claim7.holds Tryz.pinned (.plain (OpenSpec.upto referOfSpec)) referOfUptoCard
end Rows
end Go.Proofs.YtdfnfimajhagfaaGreatDoor
