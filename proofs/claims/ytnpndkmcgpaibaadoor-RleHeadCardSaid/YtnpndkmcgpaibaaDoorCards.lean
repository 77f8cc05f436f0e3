/-
  DERIVED. GIVEN WITH THE SEED: THE CARDS: each row of YtnpndkmcgpaibaaDoorRows.lean that lists a variable, with what it lists TIED to the program's text (the seventh form; the later family's looks); each row that meets fmt, with fmt's text TOLD by the authors' own Lean function (tested against real Go, not proved from fmt's source: count such statements apart). THE CARD IS WHAT COUNTS. Prove the row's statement (the work); the ties are given (YtnpndkmcgpaibaaDoorTie.lean); close each card by the builder's one call (the guide's Derived/Test/ToyasCard.lean, 'card_holds'). Laid BY PROGRAM, IN A SANDBOX (cutbox-door.mjs). By AI agents, Wed Nov 11 2026. No macro, syntax, notation, axiom, sorry.
-/
import Derived.Test.YtnpndkmcgpaibaaDoorRows
import GoSem.ClaimSeven
namespace Go.Proofs.YtnpndkmcgpaibaaDoor
namespace Rows

/-- THE TIED CARD OF 'gosperlaw04.TokenTells'. -/
def tokenTellsCard : Claim7 := { stood := { row := tokenTellsRow, standIns := [], harness := (true, "ba009e529e518f4926d18cdc8f0de36a94ed1da64f3920858172da7f42dcf721"), looks := false }, kinds := [], alts := [], laidByText := true, laidKinds := [.data, .data, .data], laidTests := true, laidLooks := .later }
def TokenTellsCardSaid : Prop := Claim7.holds Tryd.pinned (.plain (OpenSpec.ofChange tokenTellsSpec)) tokenTellsCard

/-- THE TIED CARD OF 'gosperlaw04.TokenBack'. -/
def tokenBackCard : Claim7 := { stood := { row := tokenBackRow, standIns := [], harness := (true, "ba009e529e518f4926d18cdc8f0de36a94ed1da64f3920858172da7f42dcf721"), looks := false }, kinds := [], alts := [], laidByText := true, laidKinds := [.data, .data, .data], laidTests := true, laidLooks := .later }
def TokenBackCardSaid : Prop := Claim7.holds Tryd.pinned (.plain (OpenSpec.ofChange tokenBackSpec)) tokenBackCard

/-- THE TIED CARD OF 'gosperlaw04.TokenForth'. -/
def tokenForthCard : Claim7 := { stood := { row := tokenForthRow, standIns := [], harness := (true, "ba009e529e518f4926d18cdc8f0de36a94ed1da64f3920858172da7f42dcf721"), looks := false }, kinds := [], alts := [], laidByText := true, laidKinds := [.data, .data, .data], laidTests := true, laidLooks := .later }
def TokenForthCardSaid : Prop := Claim7.holds Tryd.pinned (.plain (OpenSpec.ofChange tokenForthSpec)) tokenForthCard

/-- THE TIED CARD OF 'gosperlaw04.TokenJoined'. -/
def tokenJoinedCard : Claim7 := { stood := { row := tokenJoinedRow, standIns := [], harness := (true, "ba009e529e518f4926d18cdc8f0de36a94ed1da64f3920858172da7f42dcf721"), looks := false }, kinds := [], alts := [], laidByText := true, laidKinds := [.data, .data, .data], laidTests := true, laidLooks := .later }
def TokenJoinedCardSaid : Prop := Claim7.holds Tryd.pinned (.plain (OpenSpec.ofChange tokenJoinedSpec)) tokenJoinedCard

/-- THE TIED CARD OF 'gosperlaw04.TokenEnds'. -/
def tokenEndsCard : Claim7 := { stood := { row := tokenEndsRow, standIns := [], harness := (true, "ba009e529e518f4926d18cdc8f0de36a94ed1da64f3920858172da7f42dcf721"), looks := false }, kinds := [], alts := [], laidByText := true, laidKinds := [.data, .data, .data], laidTests := true, laidLooks := .later }
def TokenEndsCardSaid : Prop := Claim7.holds Tryd.pinned (.plain (OpenSpec.ofChange tokenEndsSpec)) tokenEndsCard

/-- THE TIED CARD OF 'gosperlaw05.RleTells'. -/
def rleTellsCard : Claim7 := { stood := { row := rleTellsRow, standIns := [], harness := (true, "ba009e529e518f4926d18cdc8f0de36a94ed1da64f3920858172da7f42dcf721"), looks := false }, kinds := [], alts := [], laidByText := true, laidKinds := [.data, .data, .data], laidTests := true, laidLooks := .later }
def RleTellsCardSaid : Prop := Claim7.holds Tryd.pinned (.plain (OpenSpec.ofChange rleTellsSpec)) rleTellsCard

/-- THE TIED CARD OF 'gosperlaw05.RleBack'. -/
def rleBackCard : Claim7 := { stood := { row := rleBackRow, standIns := [], harness := (true, "ba009e529e518f4926d18cdc8f0de36a94ed1da64f3920858172da7f42dcf721"), looks := false }, kinds := [], alts := [], laidByText := true, laidKinds := [.data, .data, .data], laidTests := true, laidLooks := .later }
def RleBackCardSaid : Prop := Claim7.holds Tryd.pinned (.plain (OpenSpec.ofChange rleBackSpec)) rleBackCard

/-- THE TIED CARD OF 'gosperlaw05.RleForth'. -/
def rleForthCard : Claim7 := { stood := { row := rleForthRow, standIns := [], harness := (true, "ba009e529e518f4926d18cdc8f0de36a94ed1da64f3920858172da7f42dcf721"), looks := false }, kinds := [], alts := [], laidByText := true, laidKinds := [.data, .data, .data], laidTests := true, laidLooks := .later }
def RleForthCardSaid : Prop := Claim7.holds Tryd.pinned (.plain (OpenSpec.ofChange rleForthSpec)) rleForthCard

/-- THE TIED CARD OF 'gosperlaw05.RleHead'. -/
def rleHeadCard : Claim7 := { stood := { row := rleHeadRow, standIns := [], harness := (true, "ba009e529e518f4926d18cdc8f0de36a94ed1da64f3920858172da7f42dcf721"), looks := false }, kinds := [], alts := [], laidByText := true, laidKinds := [.data, .data, .data], laidTests := true, laidLooks := .later }
def RleHeadCardSaid : Prop := Claim7.holds Tryd.pinned (.plain (OpenSpec.ofChange rleHeadSpec)) rleHeadCard

/-- THE TIED CARD OF 'gosperlaw05.RleShort'. -/
def rleShortCard : Claim7 := { stood := { row := rleShortRow, standIns := [], harness := (true, "ba009e529e518f4926d18cdc8f0de36a94ed1da64f3920858172da7f42dcf721"), looks := false }, kinds := [], alts := [], laidByText := true, laidKinds := [.data, .data, .data], laidTests := true, laidLooks := .later }
def RleShortCardSaid : Prop := Claim7.holds Tryd.pinned (.plain (OpenSpec.ofChange rleShortSpec)) rleShortCard

/-- THE TIED CARD OF 'gosperlaw05.RleItems'. -/
def rleItemsCard : Claim7 := { stood := { row := rleItemsRow, standIns := [], harness := (true, "ba009e529e518f4926d18cdc8f0de36a94ed1da64f3920858172da7f42dcf721"), looks := false }, kinds := [], alts := [], laidByText := true, laidKinds := [.data, .data, .data], laidTests := true, laidLooks := .later }
def RleItemsCardSaid : Prop := Claim7.holds Tryd.pinned (.plain (OpenSpec.ofChange rleItemsSpec)) rleItemsCard

/-- THE SECOND FORM's CARD OF 'gosperlaw04.TokenTells'. -/
def tokenTellsUptoCard : Claim7 := { stood := { row := tokenTellsUptoRow, standIns := [], harness := (true, "ba009e529e518f4926d18cdc8f0de36a94ed1da64f3920858172da7f42dcf721"), looks := false }, kinds := [], alts := [], laidByText := true, laidKinds := [.data, .data, .data], laidTests := true, laidLooks := .later }
def TokenTellsUptoCardSaid : Prop := Claim7.holds Tryd.pinned (.plain (OpenSpec.upto tokenTellsSpec)) tokenTellsUptoCard

/-- THE SECOND FORM's CARD OF 'gosperlaw04.TokenBack'. -/
def tokenBackUptoCard : Claim7 := { stood := { row := tokenBackUptoRow, standIns := [], harness := (true, "ba009e529e518f4926d18cdc8f0de36a94ed1da64f3920858172da7f42dcf721"), looks := false }, kinds := [], alts := [], laidByText := true, laidKinds := [.data, .data, .data], laidTests := true, laidLooks := .later }
def TokenBackUptoCardSaid : Prop := Claim7.holds Tryd.pinned (.plain (OpenSpec.upto tokenBackSpec)) tokenBackUptoCard

/-- THE SECOND FORM's CARD OF 'gosperlaw04.TokenForth'. -/
def tokenForthUptoCard : Claim7 := { stood := { row := tokenForthUptoRow, standIns := [], harness := (true, "ba009e529e518f4926d18cdc8f0de36a94ed1da64f3920858172da7f42dcf721"), looks := false }, kinds := [], alts := [], laidByText := true, laidKinds := [.data, .data, .data], laidTests := true, laidLooks := .later }
def TokenForthUptoCardSaid : Prop := Claim7.holds Tryd.pinned (.plain (OpenSpec.upto tokenForthSpec)) tokenForthUptoCard

/-- THE SECOND FORM's CARD OF 'gosperlaw04.TokenJoined'. -/
def tokenJoinedUptoCard : Claim7 := { stood := { row := tokenJoinedUptoRow, standIns := [], harness := (true, "ba009e529e518f4926d18cdc8f0de36a94ed1da64f3920858172da7f42dcf721"), looks := false }, kinds := [], alts := [], laidByText := true, laidKinds := [.data, .data, .data], laidTests := true, laidLooks := .later }
def TokenJoinedUptoCardSaid : Prop := Claim7.holds Tryd.pinned (.plain (OpenSpec.upto tokenJoinedSpec)) tokenJoinedUptoCard

/-- THE SECOND FORM's CARD OF 'gosperlaw04.TokenEnds'. -/
def tokenEndsUptoCard : Claim7 := { stood := { row := tokenEndsUptoRow, standIns := [], harness := (true, "ba009e529e518f4926d18cdc8f0de36a94ed1da64f3920858172da7f42dcf721"), looks := false }, kinds := [], alts := [], laidByText := true, laidKinds := [.data, .data, .data], laidTests := true, laidLooks := .later }
def TokenEndsUptoCardSaid : Prop := Claim7.holds Tryd.pinned (.plain (OpenSpec.upto tokenEndsSpec)) tokenEndsUptoCard

/-- THE SECOND FORM's CARD OF 'gosperlaw05.RleTells'. -/
def rleTellsUptoCard : Claim7 := { stood := { row := rleTellsUptoRow, standIns := [], harness := (true, "ba009e529e518f4926d18cdc8f0de36a94ed1da64f3920858172da7f42dcf721"), looks := false }, kinds := [], alts := [], laidByText := true, laidKinds := [.data, .data, .data], laidTests := true, laidLooks := .later }
def RleTellsUptoCardSaid : Prop := Claim7.holds Tryd.pinned (.plain (OpenSpec.upto rleTellsSpec)) rleTellsUptoCard

/-- THE SECOND FORM's CARD OF 'gosperlaw05.RleBack'. -/
def rleBackUptoCard : Claim7 := { stood := { row := rleBackUptoRow, standIns := [], harness := (true, "ba009e529e518f4926d18cdc8f0de36a94ed1da64f3920858172da7f42dcf721"), looks := false }, kinds := [], alts := [], laidByText := true, laidKinds := [.data, .data, .data], laidTests := true, laidLooks := .later }
def RleBackUptoCardSaid : Prop := Claim7.holds Tryd.pinned (.plain (OpenSpec.upto rleBackSpec)) rleBackUptoCard

/-- THE SECOND FORM's CARD OF 'gosperlaw05.RleForth'. -/
def rleForthUptoCard : Claim7 := { stood := { row := rleForthUptoRow, standIns := [], harness := (true, "ba009e529e518f4926d18cdc8f0de36a94ed1da64f3920858172da7f42dcf721"), looks := false }, kinds := [], alts := [], laidByText := true, laidKinds := [.data, .data, .data], laidTests := true, laidLooks := .later }
def RleForthUptoCardSaid : Prop := Claim7.holds Tryd.pinned (.plain (OpenSpec.upto rleForthSpec)) rleForthUptoCard

/-- THE SECOND FORM's CARD OF 'gosperlaw05.RleHead'. -/
def rleHeadUptoCard : Claim7 := { stood := { row := rleHeadUptoRow, standIns := [], harness := (true, "ba009e529e518f4926d18cdc8f0de36a94ed1da64f3920858172da7f42dcf721"), looks := false }, kinds := [], alts := [], laidByText := true, laidKinds := [.data, .data, .data], laidTests := true, laidLooks := .later }
def RleHeadUptoCardSaid : Prop := Claim7.holds Tryd.pinned (.plain (OpenSpec.upto rleHeadSpec)) rleHeadUptoCard

/-- THE SECOND FORM's CARD OF 'gosperlaw05.RleShort'. -/
def rleShortUptoCard : Claim7 := { stood := { row := rleShortUptoRow, standIns := [], harness := (true, "ba009e529e518f4926d18cdc8f0de36a94ed1da64f3920858172da7f42dcf721"), looks := false }, kinds := [], alts := [], laidByText := true, laidKinds := [.data, .data, .data], laidTests := true, laidLooks := .later }
def RleShortUptoCardSaid : Prop := Claim7.holds Tryd.pinned (.plain (OpenSpec.upto rleShortSpec)) rleShortUptoCard

/-- THE SECOND FORM's CARD OF 'gosperlaw05.RleItems'. -/
def rleItemsUptoCard : Claim7 := { stood := { row := rleItemsUptoRow, standIns := [], harness := (true, "ba009e529e518f4926d18cdc8f0de36a94ed1da64f3920858172da7f42dcf721"), looks := false }, kinds := [], alts := [], laidByText := true, laidKinds := [.data, .data, .data], laidTests := true, laidLooks := .later }
def RleItemsUptoCardSaid : Prop := Claim7.holds Tryd.pinned (.plain (OpenSpec.upto rleItemsSpec)) rleItemsUptoCard
end Rows
end Go.Proofs.YtnpndkmcgpaibaaDoor
