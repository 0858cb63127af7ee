/-
  DERIVED. GIVEN WITH THE SEED: THE CARDS: each row of YtkmechjilekcmaaDoorRows.lean that lists a variable, with what it lists TIED to the program's text (the seventh form; the later family's looks); each row that meets fmt, with fmt's text TOLD by the authors' own Lean function (tested against real Go, not proved from fmt's source: count such statements apart). THE CARD IS WHAT COUNTS. Prove the row's statement (the work); the ties are given (YtkmechjilekcmaaDoorTie.lean); close each card by the builder's one call (the guide's Derived/Test/ToyasCard.lean, 'card_holds'). Laid BY PROGRAM, IN A SANDBOX (cutbox-door.mjs). By AI agents, Wed Nov 11 2026. No macro, syntax, notation, axiom, sorry.
-/
import Derived.Test.YtkmechjilekcmaaDoorRows
import GoSem.ClaimSeven
namespace Go.Proofs.YtkmechjilekcmaaDoor
namespace Rows

/-- THE TIED CARD OF 'laws.FnExactTagOf'. -/
def fnExactTagOfCard : Claim7 := { stood := { row := fnExactTagOfRow, standIns := [], harness := (true, "1f34153807463cd54c805ff01c0d76877f0f5ba3afab1bfe9faefd3141011480"), looks := false }, kinds := [], alts := [], laidByText := true, laidKinds := [.data, .pinned], laidTests := true, laidLooks := .later }
def FnExactTagOfCardSaid : Prop := Claim7.holds Tryd.pinned (.plain (OpenSpec.ofChange fnExactTagOfSpec)) fnExactTagOfCard

/-- THE TIED CARD OF 'laws.FnTags'. -/
def fnTagsCard : Claim7 := { stood := { row := fnTagsRow, standIns := [], harness := (true, "1f34153807463cd54c805ff01c0d76877f0f5ba3afab1bfe9faefd3141011480"), looks := false }, kinds := [], alts := [], laidByText := true, laidKinds := [.data, .pinned], laidTests := true, laidLooks := .later }
def FnTagsCardSaid : Prop := Claim7.holds Tryd.pinned (.plain (OpenSpec.ofChange fnTagsSpec)) fnTagsCard

/-- THE TIED CARD OF 'laws.FnPieces'. -/
def fnPiecesCard : Claim7 := { stood := { row := fnPiecesRow, standIns := [], harness := (true, "1f34153807463cd54c805ff01c0d76877f0f5ba3afab1bfe9faefd3141011480"), looks := false }, kinds := [], alts := [], laidByText := true, laidKinds := [.data, .pinned], laidTests := true, laidLooks := .later }
def FnPiecesCardSaid : Prop := Claim7.holds Tryd.pinned (.plain (OpenSpec.ofChange fnPiecesSpec)) fnPiecesCard

/-- THE TIED CARD OF 'laws.FnExactFeedText'. -/
def fnExactFeedTextCard : Claim7 := { stood := { row := fnExactFeedTextRow, standIns := [], harness := (true, "1f34153807463cd54c805ff01c0d76877f0f5ba3afab1bfe9faefd3141011480"), looks := false }, kinds := [], alts := [], laidByText := true, laidKinds := [.data, .pinned], laidTests := true, laidLooks := .later }
def FnExactFeedTextCardSaid : Prop := Claim7.holds Tryd.pinned (.plain (OpenSpec.ofChange fnExactFeedTextSpec)) fnExactFeedTextCard

/-- THE TIED CARD OF 'laws.FnExactTokensOf'. -/
def fnExactTokensOfCard : Claim7 := { stood := { row := fnExactTokensOfRow, standIns := [], harness := (true, "1f34153807463cd54c805ff01c0d76877f0f5ba3afab1bfe9faefd3141011480"), looks := false }, kinds := [], alts := [], laidByText := true, laidKinds := [.data, .pinned], laidTests := true, laidLooks := .later }
def FnExactTokensOfCardSaid : Prop := Claim7.holds Tryd.pinned (.plain (OpenSpec.ofChange fnExactTokensOfSpec)) fnExactTokensOfCard

/-- THE SECOND FORM's CARD OF 'laws.FnExactTagOf'. -/
def fnExactTagOfUptoCard : Claim7 := { stood := { row := fnExactTagOfUptoRow, standIns := [], harness := (true, "1f34153807463cd54c805ff01c0d76877f0f5ba3afab1bfe9faefd3141011480"), looks := false }, kinds := [], alts := [], laidByText := true, laidKinds := [.data, .pinned], laidTests := true, laidLooks := .later }
def FnExactTagOfUptoCardSaid : Prop := Claim7.holds Tryd.pinned (.plain (OpenSpec.upto fnExactTagOfSpec)) fnExactTagOfUptoCard

/-- THE SECOND FORM's CARD OF 'laws.FnTags'. -/
def fnTagsUptoCard : Claim7 := { stood := { row := fnTagsUptoRow, standIns := [], harness := (true, "1f34153807463cd54c805ff01c0d76877f0f5ba3afab1bfe9faefd3141011480"), looks := false }, kinds := [], alts := [], laidByText := true, laidKinds := [.data, .pinned], laidTests := true, laidLooks := .later }
def FnTagsUptoCardSaid : Prop := Claim7.holds Tryd.pinned (.plain (OpenSpec.upto fnTagsSpec)) fnTagsUptoCard

/-- THE SECOND FORM's CARD OF 'laws.FnPieces'. -/
def fnPiecesUptoCard : Claim7 := { stood := { row := fnPiecesUptoRow, standIns := [], harness := (true, "1f34153807463cd54c805ff01c0d76877f0f5ba3afab1bfe9faefd3141011480"), looks := false }, kinds := [], alts := [], laidByText := true, laidKinds := [.data, .pinned], laidTests := true, laidLooks := .later }
def FnPiecesUptoCardSaid : Prop := Claim7.holds Tryd.pinned (.plain (OpenSpec.upto fnPiecesSpec)) fnPiecesUptoCard

/-- THE SECOND FORM's CARD OF 'laws.FnExactFeedText'. -/
def fnExactFeedTextUptoCard : Claim7 := { stood := { row := fnExactFeedTextUptoRow, standIns := [], harness := (true, "1f34153807463cd54c805ff01c0d76877f0f5ba3afab1bfe9faefd3141011480"), looks := false }, kinds := [], alts := [], laidByText := true, laidKinds := [.data, .pinned], laidTests := true, laidLooks := .later }
def FnExactFeedTextUptoCardSaid : Prop := Claim7.holds Tryd.pinned (.plain (OpenSpec.upto fnExactFeedTextSpec)) fnExactFeedTextUptoCard

/-- THE SECOND FORM's CARD OF 'laws.FnExactTokensOf'. -/
def fnExactTokensOfUptoCard : Claim7 := { stood := { row := fnExactTokensOfUptoRow, standIns := [], harness := (true, "1f34153807463cd54c805ff01c0d76877f0f5ba3afab1bfe9faefd3141011480"), looks := false }, kinds := [], alts := [], laidByText := true, laidKinds := [.data, .pinned], laidTests := true, laidLooks := .later }
def FnExactTokensOfUptoCardSaid : Prop := Claim7.holds Tryd.pinned (.plain (OpenSpec.upto fnExactTokensOfSpec)) fnExactTokensOfUptoCard
end Rows
end Go.Proofs.YtkmechjilekcmaaDoor
