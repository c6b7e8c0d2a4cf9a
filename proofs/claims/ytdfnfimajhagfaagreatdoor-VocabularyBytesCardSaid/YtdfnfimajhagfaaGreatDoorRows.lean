/-
  NARROWER THAN 'FOR EVERY INPUT', by the rows' own cells (each row's printed sentence says how): VocabularyValid: laid · VocabularyAdds: laid · VocabularyMentions: laid · VocabularyNames: laid · VocabularyFound: laid · VocabularyOrders: laid · VocabularyBytes: laid · ReferOf: laid.
  DERIVED. THE GIVEN ROWS OF THIS SEAT. 8 by the template 'for every input the law returns true; each argument reads behind the call as it read before'; 0 by the template 'total and deterministic' (their statements: YtdfnfimajhagfaaGreatDoorTotals.lean).
  GIVEN WITH THE SEED: the statements are not yours to turn. If you find one false, say at which input.
  Laid BY PROGRAM, IN A SANDBOX (cutbox-rows.mjs): the forced cells as the released guide's own fill.sh prints them over the translation c034cd2aed88f550… (all of the seat's roots in one cut). By AI agents, Wed Nov 11 2026. No macro, syntax, notation, axiom, sorry.
-/
import Derived.Test.YtdfnfimajhagfaaGreatDoorChecked
import GoSem.PinnedTables
import GoSem.Claim
import GoSem.ClaimJoined
import GoSem.ClaimMapViews
import Derived.JoinedTies
import Derived.KernelRfl
namespace Go.Proofs.YtdfnfimajhagfaaGreatDoor
/- THE CELL 'sum', in the pinned program and in every row, IS THE sha256 OF THE DUMP (.gsa) THAT YtdfnfimajhagfaaGreatDoorProg.lean LOADS. Nothing in Lean hashes anything: it is a label: what it is worth is what the hold of that sum in a sandbox is worth. -/
noncomputable def Tryz.pinned : Pinned := { name := "ytdfnfimajhagfaagreatdoor", sum := "c034cd2aed88f5504f56c46315b1774b240c07e7bdc3846879da983a8d15fc3d", checked := Tryz.checked }
namespace Rows
def none {H : Type} : Left H := { results := [], args := [] }

/- WHAT THE LISTED PACKAGE-LEVEL VARIABLES READ AS WHEN THE CALL BEGINS. Each datum BY PROGRAM (the guide's laid-datum.mjs) off the statement by which the dump's own 'gosem.cut.vars' lays the variable. In a bare row this is a premise. The card (YtdfnfimajhagfaaGreatDoorCards.lean) ties it to the program's text. -/
def laid_unicode_utf8_acceptRanges {H : Type} : DataW H := .agg [.agg [.lit (.int .u8 128), .lit (.int .u8 191)], .agg [.lit (.int .u8 160), .lit (.int .u8 191)], .agg [.lit (.int .u8 128), .lit (.int .u8 159)], .agg [.lit (.int .u8 144), .lit (.int .u8 191)], .agg [.lit (.int .u8 128), .lit (.int .u8 143)], .agg [.lit (.int .u8 0), .lit (.int .u8 0)], .agg [.lit (.int .u8 0), .lit (.int .u8 0)], .agg [.lit (.int .u8 0), .lit (.int .u8 0)], .agg [.lit (.int .u8 0), .lit (.int .u8 0)], .agg [.lit (.int .u8 0), .lit (.int .u8 0)], .agg [.lit (.int .u8 0), .lit (.int .u8 0)], .agg [.lit (.int .u8 0), .lit (.int .u8 0)], .agg [.lit (.int .u8 0), .lit (.int .u8 0)], .agg [.lit (.int .u8 0), .lit (.int .u8 0)], .agg [.lit (.int .u8 0), .lit (.int .u8 0)], .agg [.lit (.int .u8 0), .lit (.int .u8 0)]]
/-- One of Go's own tables, pinned by name: the form's constant. -/
def laid_unicode_utf8_first : DataW Unit := Go.Pinned.utf8First

/-- 'passimlaw24.VocabularyValid': WHATEVER THE INPUT: true; the input reads as it did. -/
def vocabularyValidSpec : ChangeSpec := { name := "vocabularyValid", fn := fun _ => fun
  | [d1, d2, d3] => { results := [.lit (.bool true)], args := [d1, d2, d3] }
  | _ => none }
def vocabularyValidRow : OpenClaim := { program := "ytdfnfimajhagfaagreatdoor", sum := "c034cd2aed88f5504f56c46315b1774b240c07e7bdc3846879da983a8d15fc3d", func := "passim/passimlaw24.VocabularyValid", spec := "vocabularyValid", inPlace := ["internal/bytealg.CountString", "internal/bytealg.IndexByteString", "internal/bytealg.IndexString", "internal/abi.NoEscape", "internal/bytealg.abigen_runtime_cmpstring", "slices.overlaps[passim/api.Term]"], unfollowed := true, recurses := true, named := ["unicode/utf8.first", "unicode/utf8.acceptRanges", "internal/bytealg.MaxLen"], apart := false, laid := [("unicode/utf8.acceptRanges", laid_unicode_utf8_acceptRanges), ("unicode/utf8.first", laid_unicode_utf8_first)] }
def VocabularyValidSaid : Prop := vocabularyValidRow.holds Tryz.pinned (OpenSpec.ofChange vocabularyValidSpec)

/-- ITS FALSE NEIGHBOUR: 'it returns false'. Refute it at one input. -/
def vocabularyValidWrong : ChangeSpec := { name := "vocabularyValid", fn := fun _ => fun
  | [d1, d2, d3] => { results := [.lit (.bool false)], args := [d1, d2, d3] }
  | _ => none }
def VocabularyValidWrongFalsely : Prop := vocabularyValidRow.holds Tryz.pinned (OpenSpec.ofChange vocabularyValidWrong)

/-- 'passimlaw24.VocabularyAdds': WHATEVER THE INPUT: true; the input reads as it did. -/
def vocabularyAddsSpec : ChangeSpec := { name := "vocabularyAdds", fn := fun _ => fun
  | [d1, d2, d3, d4, d5] => { results := [.lit (.bool true)], args := [d1, d2, d3, d4, d5] }
  | _ => none }
def vocabularyAddsRow : OpenClaim := { program := "ytdfnfimajhagfaagreatdoor", sum := "c034cd2aed88f5504f56c46315b1774b240c07e7bdc3846879da983a8d15fc3d", func := "passim/passimlaw24.VocabularyAdds", spec := "vocabularyAdds", inPlace := ["internal/bytealg.CountString", "internal/bytealg.IndexByteString", "internal/bytealg.IndexString", "internal/bytealg.abigen_runtime_cmpstring", "slices.overlaps[passim/api.Term]", "internal/abi.NoEscape"], unfollowed := true, recurses := true, named := ["unicode/utf8.first", "unicode/utf8.acceptRanges", "internal/bytealg.MaxLen"], apart := false, laid := [("unicode/utf8.acceptRanges", laid_unicode_utf8_acceptRanges), ("unicode/utf8.first", laid_unicode_utf8_first)] }
def VocabularyAddsSaid : Prop := vocabularyAddsRow.holds Tryz.pinned (OpenSpec.ofChange vocabularyAddsSpec)

/-- ITS FALSE NEIGHBOUR: 'it returns false'. Refute it at one input. -/
def vocabularyAddsWrong : ChangeSpec := { name := "vocabularyAdds", fn := fun _ => fun
  | [d1, d2, d3, d4, d5] => { results := [.lit (.bool false)], args := [d1, d2, d3, d4, d5] }
  | _ => none }
def VocabularyAddsWrongFalsely : Prop := vocabularyAddsRow.holds Tryz.pinned (OpenSpec.ofChange vocabularyAddsWrong)

/-- 'passimlaw24.VocabularyMentions': WHATEVER THE INPUT: true; the input reads as it did. -/
def vocabularyMentionsSpec : ChangeSpec := { name := "vocabularyMentions", fn := fun _ => fun
  | [d1, d2, d3, d4, d5, d6] => { results := [.lit (.bool true)], args := [d1, d2, d3, d4, d5, d6] }
  | _ => none }
def vocabularyMentionsRow : OpenClaim := { program := "ytdfnfimajhagfaagreatdoor", sum := "c034cd2aed88f5504f56c46315b1774b240c07e7bdc3846879da983a8d15fc3d", func := "passim/passimlaw24.VocabularyMentions", spec := "vocabularyMentions", inPlace := ["internal/bytealg.CountString", "internal/bytealg.IndexByteString", "internal/bytealg.IndexString", "internal/abi.NoEscape", "internal/bytealg.abigen_runtime_cmpstring", "slices.overlaps[passim/api.Term]"], unfollowed := true, recurses := true, named := ["unicode/utf8.first", "unicode/utf8.acceptRanges", "internal/bytealg.MaxLen"], apart := false, laid := [("unicode/utf8.acceptRanges", laid_unicode_utf8_acceptRanges), ("unicode/utf8.first", laid_unicode_utf8_first)] }
def VocabularyMentionsSaid : Prop := vocabularyMentionsRow.holds Tryz.pinned (OpenSpec.ofChange vocabularyMentionsSpec)

/-- ITS FALSE NEIGHBOUR: 'it returns false'. Refute it at one input. -/
def vocabularyMentionsWrong : ChangeSpec := { name := "vocabularyMentions", fn := fun _ => fun
  | [d1, d2, d3, d4, d5, d6] => { results := [.lit (.bool false)], args := [d1, d2, d3, d4, d5, d6] }
  | _ => none }
def VocabularyMentionsWrongFalsely : Prop := vocabularyMentionsRow.holds Tryz.pinned (OpenSpec.ofChange vocabularyMentionsWrong)

/-- 'passimlaw24.VocabularyNames': WHATEVER THE INPUT: true; the input reads as it did. -/
def vocabularyNamesSpec : ChangeSpec := { name := "vocabularyNames", fn := fun _ => fun
  | [d1, d2, d3, d4] => { results := [.lit (.bool true)], args := [d1, d2, d3, d4] }
  | _ => none }
def vocabularyNamesRow : OpenClaim := { program := "ytdfnfimajhagfaagreatdoor", sum := "c034cd2aed88f5504f56c46315b1774b240c07e7bdc3846879da983a8d15fc3d", func := "passim/passimlaw24.VocabularyNames", spec := "vocabularyNames", inPlace := ["internal/bytealg.CountString", "internal/bytealg.IndexByteString", "internal/bytealg.IndexString", "internal/abi.NoEscape", "internal/bytealg.abigen_runtime_cmpstring", "slices.overlaps[passim/api.Term]"], unfollowed := true, recurses := true, named := ["unicode/utf8.first", "unicode/utf8.acceptRanges", "internal/bytealg.MaxLen"], apart := false, laid := [("unicode/utf8.acceptRanges", laid_unicode_utf8_acceptRanges), ("unicode/utf8.first", laid_unicode_utf8_first)] }
def VocabularyNamesSaid : Prop := vocabularyNamesRow.holds Tryz.pinned (OpenSpec.ofChange vocabularyNamesSpec)

/-- ITS FALSE NEIGHBOUR: 'it returns false'. Refute it at one input. -/
def vocabularyNamesWrong : ChangeSpec := { name := "vocabularyNames", fn := fun _ => fun
  | [d1, d2, d3, d4] => { results := [.lit (.bool false)], args := [d1, d2, d3, d4] }
  | _ => none }
def VocabularyNamesWrongFalsely : Prop := vocabularyNamesRow.holds Tryz.pinned (OpenSpec.ofChange vocabularyNamesWrong)

/-- 'passimlaw24.VocabularyFound': WHATEVER THE INPUT: true; the input reads as it did. -/
def vocabularyFoundSpec : ChangeSpec := { name := "vocabularyFound", fn := fun _ => fun
  | [d1, d2, d3, d4] => { results := [.lit (.bool true)], args := [d1, d2, d3, d4] }
  | _ => none }
def vocabularyFoundRow : OpenClaim := { program := "ytdfnfimajhagfaagreatdoor", sum := "c034cd2aed88f5504f56c46315b1774b240c07e7bdc3846879da983a8d15fc3d", func := "passim/passimlaw24.VocabularyFound", spec := "vocabularyFound", inPlace := ["internal/bytealg.CountString", "internal/bytealg.IndexByteString", "internal/bytealg.IndexString", "internal/abi.NoEscape", "internal/bytealg.abigen_runtime_cmpstring", "slices.overlaps[passim/api.Term]"], unfollowed := true, recurses := true, named := ["unicode/utf8.first", "unicode/utf8.acceptRanges", "internal/bytealg.MaxLen"], apart := false, laid := [("unicode/utf8.acceptRanges", laid_unicode_utf8_acceptRanges), ("unicode/utf8.first", laid_unicode_utf8_first)] }
def VocabularyFoundSaid : Prop := vocabularyFoundRow.holds Tryz.pinned (OpenSpec.ofChange vocabularyFoundSpec)

/-- ITS FALSE NEIGHBOUR: 'it returns false'. Refute it at one input. -/
def vocabularyFoundWrong : ChangeSpec := { name := "vocabularyFound", fn := fun _ => fun
  | [d1, d2, d3, d4] => { results := [.lit (.bool false)], args := [d1, d2, d3, d4] }
  | _ => none }
def VocabularyFoundWrongFalsely : Prop := vocabularyFoundRow.holds Tryz.pinned (OpenSpec.ofChange vocabularyFoundWrong)

/-- 'passimlaw24.VocabularyOrders': WHATEVER THE INPUT: true; the input reads as it did. -/
def vocabularyOrdersSpec : ChangeSpec := { name := "vocabularyOrders", fn := fun _ => fun
  | [d] => { results := [.lit (.bool true)], args := [d] }
  | _ => none }
def vocabularyOrdersRow : OpenClaim := { program := "ytdfnfimajhagfaagreatdoor", sum := "c034cd2aed88f5504f56c46315b1774b240c07e7bdc3846879da983a8d15fc3d", func := "passim/passimlaw24.VocabularyOrders", spec := "vocabularyOrders", inPlace := ["internal/bytealg.CountString", "internal/bytealg.IndexByteString", "internal/bytealg.IndexString", "internal/abi.NoEscape", "internal/bytealg.abigen_runtime_cmpstring", "slices.overlaps[passim/api.Term]"], unfollowed := true, recurses := true, named := ["unicode/utf8.first", "unicode/utf8.acceptRanges", "internal/bytealg.MaxLen"], apart := false, laid := [("unicode/utf8.acceptRanges", laid_unicode_utf8_acceptRanges), ("unicode/utf8.first", laid_unicode_utf8_first)] }
def VocabularyOrdersSaid : Prop := vocabularyOrdersRow.holds Tryz.pinned (OpenSpec.ofChange vocabularyOrdersSpec)

/-- ITS FALSE NEIGHBOUR: 'it returns false'. Refute it at one input. -/
def vocabularyOrdersWrong : ChangeSpec := { name := "vocabularyOrders", fn := fun _ => fun
  | [d] => { results := [.lit (.bool false)], args := [d] }
  | _ => none }
def VocabularyOrdersWrongFalsely : Prop := vocabularyOrdersRow.holds Tryz.pinned (OpenSpec.ofChange vocabularyOrdersWrong)

/-- 'passimlaw24.VocabularyBytes': WHATEVER THE INPUT: true; the input reads as it did. -/
def vocabularyBytesSpec : ChangeSpec := { name := "vocabularyBytes", fn := fun _ => fun
  | [d1, d2, d3, d4] => { results := [.lit (.bool true)], args := [d1, d2, d3, d4] }
  | _ => none }
def vocabularyBytesRow : OpenClaim := { program := "ytdfnfimajhagfaagreatdoor", sum := "c034cd2aed88f5504f56c46315b1774b240c07e7bdc3846879da983a8d15fc3d", func := "passim/passimlaw24.VocabularyBytes", spec := "vocabularyBytes", inPlace := ["internal/bytealg.CountString", "internal/bytealg.IndexByteString", "internal/bytealg.IndexString", "internal/abi.NoEscape", "internal/bytealg.abigen_runtime_cmpstring", "slices.overlaps[passim/api.Term]"], unfollowed := true, recurses := true, named := ["unicode/utf8.first", "unicode/utf8.acceptRanges", "internal/bytealg.MaxLen"], apart := false, laid := [("unicode/utf8.acceptRanges", laid_unicode_utf8_acceptRanges), ("unicode/utf8.first", laid_unicode_utf8_first)] }
def VocabularyBytesSaid : Prop := vocabularyBytesRow.holds Tryz.pinned (OpenSpec.ofChange vocabularyBytesSpec)

/-- ITS FALSE NEIGHBOUR: 'it returns false'. Refute it at one input. -/
def vocabularyBytesWrong : ChangeSpec := { name := "vocabularyBytes", fn := fun _ => fun
  | [d1, d2, d3, d4] => { results := [.lit (.bool false)], args := [d1, d2, d3, d4] }
  | _ => none }
def VocabularyBytesWrongFalsely : Prop := vocabularyBytesRow.holds Tryz.pinned (OpenSpec.ofChange vocabularyBytesWrong)

/-- 'passimlaw30.ReferOf': WHATEVER THE INPUT: true; the input reads as it did. -/
def referOfSpec : ChangeSpec := { name := "referOf", fn := fun _ => fun
  | [d1, d2, d3, d4, d5] => { results := [.lit (.bool true)], args := [d1, d2, d3, d4, d5] }
  | _ => none }
def referOfRow : OpenClaim := { program := "ytdfnfimajhagfaagreatdoor", sum := "c034cd2aed88f5504f56c46315b1774b240c07e7bdc3846879da983a8d15fc3d", func := "passim/passimlaw30.ReferOf", spec := "referOf", inPlace := ["internal/bytealg.CountString", "internal/bytealg.IndexByteString", "internal/bytealg.IndexString", "internal/bytealg.abigen_runtime_cmpstring"], unfollowed := true, recurses := true, named := ["unicode/utf8.first", "unicode/utf8.acceptRanges", "internal/bytealg.MaxLen"], apart := false, laid := [("unicode/utf8.acceptRanges", laid_unicode_utf8_acceptRanges), ("unicode/utf8.first", laid_unicode_utf8_first)] }
def ReferOfSaid : Prop := referOfRow.holds Tryz.pinned (OpenSpec.ofChange referOfSpec)

/-- ITS FALSE NEIGHBOUR: 'it returns false'. Refute it at one input. -/
def referOfWrong : ChangeSpec := { name := "referOf", fn := fun _ => fun
  | [d1, d2, d3, d4, d5] => { results := [.lit (.bool false)], args := [d1, d2, d3, d4, d5] }
  | _ => none }
def ReferOfWrongFalsely : Prop := referOfRow.holds Tryz.pinned (OpenSpec.ofChange referOfWrong)

/- THE SECOND FORM. 'bulk': how many values and letters a reading holds, each counted each time it is reached (what is shared counts as often as it is met; a slice's spare places count too). A statement '..UptoSaid' is the law's where the arguments, and the package variables that the reading takes, are together of bulk at most 1048576: NARROWER than '..Said'. Prove '..Said' where nothing that the law and all that it calls make is longer than what came in: it says more and counts as full. Else prove '..UptoSaid'. A law counts once. -/
mutual
def uptoBulk {H : Type} : DataW H → Nat
  | .lit (.string bytes) => bytes.length + 1
  | .lit _ => 1
  | .nil => 1
  | .ptr d => uptoBulk d + 1
  | .slice elems spare => uptoBulkAll elems + uptoBulkAll spare + 1
  | .agg parts => uptoBulkAll parts + 1
  | .iface _ d => uptoBulk d + 1
  | .map entries => uptoBulkEntries entries + 1
  | .held _ => 1
def uptoBulkAll {H : Type} : List (DataW H) → Nat
  | [] => 0
  | d :: r => uptoBulk d + uptoBulkAll r
def uptoBulkEntries {H : Type} : List (Lit × DataW H) → Nat
  | [] => 0
  | x :: r => uptoBulkEntry x + uptoBulkEntries r
def uptoBulkEntry {H : Type} : Lit × DataW H → Nat
  | (.string bytes, d) => bytes.length + uptoBulk d + 1
  | (_, d) => uptoBulk d + 1
 end
def uptoSmall : (H : Type) → List (DataW H) → Bool := fun _ ds => decide (uptoBulkAll ds ≤ 1048576)
def OpenSpec.upto (s : _root_.Go.ChangeSpec) : _root_.Go.OpenSpec := { _root_.Go.OpenSpec.ofChange s with cond := some uptoSmall }

/-- 'passimlaw24.VocabularyValid', WHERE WHAT IT READS IS OF BULK AT MOST 1048576: true; the input reads as it did. -/
def vocabularyValidUptoRow : OpenClaim := { program := "ytdfnfimajhagfaagreatdoor", sum := "c034cd2aed88f5504f56c46315b1774b240c07e7bdc3846879da983a8d15fc3d", func := "passim/passimlaw24.VocabularyValid", spec := "vocabularyValid", inPlace := ["internal/bytealg.CountString", "internal/bytealg.IndexByteString", "internal/bytealg.IndexString", "internal/abi.NoEscape", "internal/bytealg.abigen_runtime_cmpstring", "slices.overlaps[passim/api.Term]"], unfollowed := true, recurses := true, named := ["unicode/utf8.first", "unicode/utf8.acceptRanges", "internal/bytealg.MaxLen"], apart := false, laid := [("unicode/utf8.acceptRanges", laid_unicode_utf8_acceptRanges), ("unicode/utf8.first", laid_unicode_utf8_first)], narrowed := true }
def VocabularyValidUptoSaid : Prop := vocabularyValidUptoRow.holds Tryz.pinned (OpenSpec.upto vocabularyValidSpec)

/-- 'passimlaw24.VocabularyAdds', WHERE WHAT IT READS IS OF BULK AT MOST 1048576: true; the input reads as it did. -/
def vocabularyAddsUptoRow : OpenClaim := { program := "ytdfnfimajhagfaagreatdoor", sum := "c034cd2aed88f5504f56c46315b1774b240c07e7bdc3846879da983a8d15fc3d", func := "passim/passimlaw24.VocabularyAdds", spec := "vocabularyAdds", inPlace := ["internal/bytealg.CountString", "internal/bytealg.IndexByteString", "internal/bytealg.IndexString", "internal/bytealg.abigen_runtime_cmpstring", "slices.overlaps[passim/api.Term]", "internal/abi.NoEscape"], unfollowed := true, recurses := true, named := ["unicode/utf8.first", "unicode/utf8.acceptRanges", "internal/bytealg.MaxLen"], apart := false, laid := [("unicode/utf8.acceptRanges", laid_unicode_utf8_acceptRanges), ("unicode/utf8.first", laid_unicode_utf8_first)], narrowed := true }
def VocabularyAddsUptoSaid : Prop := vocabularyAddsUptoRow.holds Tryz.pinned (OpenSpec.upto vocabularyAddsSpec)

/-- 'passimlaw24.VocabularyMentions', WHERE WHAT IT READS IS OF BULK AT MOST 1048576: true; the input reads as it did. -/
def vocabularyMentionsUptoRow : OpenClaim := { program := "ytdfnfimajhagfaagreatdoor", sum := "c034cd2aed88f5504f56c46315b1774b240c07e7bdc3846879da983a8d15fc3d", func := "passim/passimlaw24.VocabularyMentions", spec := "vocabularyMentions", inPlace := ["internal/bytealg.CountString", "internal/bytealg.IndexByteString", "internal/bytealg.IndexString", "internal/abi.NoEscape", "internal/bytealg.abigen_runtime_cmpstring", "slices.overlaps[passim/api.Term]"], unfollowed := true, recurses := true, named := ["unicode/utf8.first", "unicode/utf8.acceptRanges", "internal/bytealg.MaxLen"], apart := false, laid := [("unicode/utf8.acceptRanges", laid_unicode_utf8_acceptRanges), ("unicode/utf8.first", laid_unicode_utf8_first)], narrowed := true }
def VocabularyMentionsUptoSaid : Prop := vocabularyMentionsUptoRow.holds Tryz.pinned (OpenSpec.upto vocabularyMentionsSpec)

/-- 'passimlaw24.VocabularyNames', WHERE WHAT IT READS IS OF BULK AT MOST 1048576: true; the input reads as it did. -/
def vocabularyNamesUptoRow : OpenClaim := { program := "ytdfnfimajhagfaagreatdoor", sum := "c034cd2aed88f5504f56c46315b1774b240c07e7bdc3846879da983a8d15fc3d", func := "passim/passimlaw24.VocabularyNames", spec := "vocabularyNames", inPlace := ["internal/bytealg.CountString", "internal/bytealg.IndexByteString", "internal/bytealg.IndexString", "internal/abi.NoEscape", "internal/bytealg.abigen_runtime_cmpstring", "slices.overlaps[passim/api.Term]"], unfollowed := true, recurses := true, named := ["unicode/utf8.first", "unicode/utf8.acceptRanges", "internal/bytealg.MaxLen"], apart := false, laid := [("unicode/utf8.acceptRanges", laid_unicode_utf8_acceptRanges), ("unicode/utf8.first", laid_unicode_utf8_first)], narrowed := true }
def VocabularyNamesUptoSaid : Prop := vocabularyNamesUptoRow.holds Tryz.pinned (OpenSpec.upto vocabularyNamesSpec)

/-- 'passimlaw24.VocabularyFound', WHERE WHAT IT READS IS OF BULK AT MOST 1048576: true; the input reads as it did. -/
def vocabularyFoundUptoRow : OpenClaim := { program := "ytdfnfimajhagfaagreatdoor", sum := "c034cd2aed88f5504f56c46315b1774b240c07e7bdc3846879da983a8d15fc3d", func := "passim/passimlaw24.VocabularyFound", spec := "vocabularyFound", inPlace := ["internal/bytealg.CountString", "internal/bytealg.IndexByteString", "internal/bytealg.IndexString", "internal/abi.NoEscape", "internal/bytealg.abigen_runtime_cmpstring", "slices.overlaps[passim/api.Term]"], unfollowed := true, recurses := true, named := ["unicode/utf8.first", "unicode/utf8.acceptRanges", "internal/bytealg.MaxLen"], apart := false, laid := [("unicode/utf8.acceptRanges", laid_unicode_utf8_acceptRanges), ("unicode/utf8.first", laid_unicode_utf8_first)], narrowed := true }
def VocabularyFoundUptoSaid : Prop := vocabularyFoundUptoRow.holds Tryz.pinned (OpenSpec.upto vocabularyFoundSpec)

/-- 'passimlaw24.VocabularyOrders', WHERE WHAT IT READS IS OF BULK AT MOST 1048576: true; the input reads as it did. -/
def vocabularyOrdersUptoRow : OpenClaim := { program := "ytdfnfimajhagfaagreatdoor", sum := "c034cd2aed88f5504f56c46315b1774b240c07e7bdc3846879da983a8d15fc3d", func := "passim/passimlaw24.VocabularyOrders", spec := "vocabularyOrders", inPlace := ["internal/bytealg.CountString", "internal/bytealg.IndexByteString", "internal/bytealg.IndexString", "internal/abi.NoEscape", "internal/bytealg.abigen_runtime_cmpstring", "slices.overlaps[passim/api.Term]"], unfollowed := true, recurses := true, named := ["unicode/utf8.first", "unicode/utf8.acceptRanges", "internal/bytealg.MaxLen"], apart := false, laid := [("unicode/utf8.acceptRanges", laid_unicode_utf8_acceptRanges), ("unicode/utf8.first", laid_unicode_utf8_first)], narrowed := true }
def VocabularyOrdersUptoSaid : Prop := vocabularyOrdersUptoRow.holds Tryz.pinned (OpenSpec.upto vocabularyOrdersSpec)

/-- 'passimlaw24.VocabularyBytes', WHERE WHAT IT READS IS OF BULK AT MOST 1048576: true; the input reads as it did. -/
def vocabularyBytesUptoRow : OpenClaim := { program := "ytdfnfimajhagfaagreatdoor", sum := "c034cd2aed88f5504f56c46315b1774b240c07e7bdc3846879da983a8d15fc3d", func := "passim/passimlaw24.VocabularyBytes", spec := "vocabularyBytes", inPlace := ["internal/bytealg.CountString", "internal/bytealg.IndexByteString", "internal/bytealg.IndexString", "internal/abi.NoEscape", "internal/bytealg.abigen_runtime_cmpstring", "slices.overlaps[passim/api.Term]"], unfollowed := true, recurses := true, named := ["unicode/utf8.first", "unicode/utf8.acceptRanges", "internal/bytealg.MaxLen"], apart := false, laid := [("unicode/utf8.acceptRanges", laid_unicode_utf8_acceptRanges), ("unicode/utf8.first", laid_unicode_utf8_first)], narrowed := true }
def VocabularyBytesUptoSaid : Prop := vocabularyBytesUptoRow.holds Tryz.pinned (OpenSpec.upto vocabularyBytesSpec)

/-- 'passimlaw30.ReferOf', WHERE WHAT IT READS IS OF BULK AT MOST 1048576: true; the input reads as it did. -/
def referOfUptoRow : OpenClaim := { program := "ytdfnfimajhagfaagreatdoor", sum := "c034cd2aed88f5504f56c46315b1774b240c07e7bdc3846879da983a8d15fc3d", func := "passim/passimlaw30.ReferOf", spec := "referOf", inPlace := ["internal/bytealg.CountString", "internal/bytealg.IndexByteString", "internal/bytealg.IndexString", "internal/bytealg.abigen_runtime_cmpstring"], unfollowed := true, recurses := true, named := ["unicode/utf8.first", "unicode/utf8.acceptRanges", "internal/bytealg.MaxLen"], apart := false, laid := [("unicode/utf8.acceptRanges", laid_unicode_utf8_acceptRanges), ("unicode/utf8.first", laid_unicode_utf8_first)], narrowed := true }
def ReferOfUptoSaid : Prop := referOfUptoRow.holds Tryz.pinned (OpenSpec.upto referOfSpec)

end Rows
end Go.Proofs.YtdfnfimajhagfaaGreatDoor
