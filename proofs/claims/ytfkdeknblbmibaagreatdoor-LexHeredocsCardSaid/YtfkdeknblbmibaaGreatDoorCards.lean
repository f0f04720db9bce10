/-
  DERIVED. GIVEN WITH THE SEED: THE CARDS: each row of YtfkdeknblbmibaaGreatDoorRows.lean that lists a variable, with what it lists TIED to the program's text (the seventh form; the later family's looks); each row that meets fmt, with fmt's text TOLD by the authors' own Lean function (tested against real Go, not proved from fmt's source: count such statements apart). THE CARD IS WHAT COUNTS. Prove the row's statement (the work); the ties are given (YtfkdeknblbmibaaGreatDoorTie.lean); close each card by the builder's one call (the guide's Derived/Test/ToyasCard.lean, 'card_holds'). Laid BY PROGRAM, IN A SANDBOX (cutbox-door.mjs). By AI agents, Wed Nov 11 2026. No macro, syntax, notation, axiom, sorry.
-/
import Derived.Test.YtfkdeknblbmibaaGreatDoorRows
import GoSem.ClaimSeven
namespace Go.Proofs.YtfkdeknblbmibaaGreatDoor
namespace Rows

/-- THE TIED CARD OF 'cowrielaw13.LexDoubled'. -/
def lexDoubledCard : Claim7 := { stood := { row := lexDoubledRow, standIns := [], harness := (true, "7f8ae538b1ca4f425b5a70599ac541a13da632d65f55aac1cef20187faa6bd61"), looks := true }, kinds := [], alts := [], laidByText := true, laidKinds := [.listed, .data], laidTests := true, laidLooks := .later }
def LexDoubledCardSaid : Prop := Claim7.holds Tryz.pinned (.plain (OpenSpec.ofChange lexDoubledSpec)) lexDoubledCard

/-- THE TIED CARD OF 'cowrielaw13.LexClosed'. -/
def lexClosedCard : Claim7 := { stood := { row := lexClosedRow, standIns := [], harness := (true, "7f8ae538b1ca4f425b5a70599ac541a13da632d65f55aac1cef20187faa6bd61"), looks := true }, kinds := [], alts := [], laidByText := true, laidKinds := [.listed, .data], laidTests := true, laidLooks := .later }
def LexClosedCardSaid : Prop := Claim7.holds Tryz.pinned (.plain (OpenSpec.ofChange lexClosedSpec)) lexClosedCard

/-- THE TIED CARD OF 'cowrielaw13.LexOwn'. -/
def lexOwnCard : Claim7 := { stood := { row := lexOwnRow, standIns := [], harness := (true, "7f8ae538b1ca4f425b5a70599ac541a13da632d65f55aac1cef20187faa6bd61"), looks := true }, kinds := [], alts := [], laidByText := true, laidKinds := [.listed, .data], laidTests := true, laidLooks := .later }
def LexOwnCardSaid : Prop := Claim7.holds Tryz.pinned (.plain (OpenSpec.ofChange lexOwnSpec)) lexOwnCard

/-- THE TIED CARD OF 'cowrielaw13.LexPlain'. -/
def lexPlainCard : Claim7 := { stood := { row := lexPlainRow, standIns := [], harness := (true, "7f8ae538b1ca4f425b5a70599ac541a13da632d65f55aac1cef20187faa6bd61"), looks := true }, kinds := [], alts := [], laidByText := true, laidKinds := [.listed, .data], laidTests := true, laidLooks := .later }
def LexPlainCardSaid : Prop := Claim7.holds Tryz.pinned (.plain (OpenSpec.ofChange lexPlainSpec)) lexPlainCard

/-- THE TIED CARD OF 'cowrielaw13.LexQuoted'. -/
def lexQuotedCard : Claim7 := { stood := { row := lexQuotedRow, standIns := [], harness := (true, "7f8ae538b1ca4f425b5a70599ac541a13da632d65f55aac1cef20187faa6bd61"), looks := true }, kinds := [], alts := [], laidByText := true, laidKinds := [.listed, .data], laidTests := true, laidLooks := .later }
def LexQuotedCardSaid : Prop := Claim7.holds Tryz.pinned (.plain (OpenSpec.ofChange lexQuotedSpec)) lexQuotedCard

/-- THE TIED CARD OF 'cowrielaw13.LexHeredocs'. -/
def lexHeredocsCard : Claim7 := { stood := { row := lexHeredocsRow, standIns := [], harness := (true, "7f8ae538b1ca4f425b5a70599ac541a13da632d65f55aac1cef20187faa6bd61"), looks := true }, kinds := [], alts := [], laidByText := true, laidKinds := [.listed, .data], laidTests := true, laidLooks := .later }
def LexHeredocsCardSaid : Prop := Claim7.holds Tryz.pinned (.plain (OpenSpec.ofChange lexHeredocsSpec)) lexHeredocsCard

/-- THE SECOND FORM's CARD OF 'cowrielaw13.LexDoubled'. -/
def lexDoubledUptoCard : Claim7 := { stood := { row := lexDoubledUptoRow, standIns := [], harness := (true, "7f8ae538b1ca4f425b5a70599ac541a13da632d65f55aac1cef20187faa6bd61"), looks := true }, kinds := [], alts := [], laidByText := true, laidKinds := [.listed, .data], laidTests := true, laidLooks := .later }
def LexDoubledUptoCardSaid : Prop := Claim7.holds Tryz.pinned (.plain (OpenSpec.upto lexDoubledSpec)) lexDoubledUptoCard

/-- THE SECOND FORM's CARD OF 'cowrielaw13.LexClosed'. -/
def lexClosedUptoCard : Claim7 := { stood := { row := lexClosedUptoRow, standIns := [], harness := (true, "7f8ae538b1ca4f425b5a70599ac541a13da632d65f55aac1cef20187faa6bd61"), looks := true }, kinds := [], alts := [], laidByText := true, laidKinds := [.listed, .data], laidTests := true, laidLooks := .later }
def LexClosedUptoCardSaid : Prop := Claim7.holds Tryz.pinned (.plain (OpenSpec.upto lexClosedSpec)) lexClosedUptoCard

/-- THE SECOND FORM's CARD OF 'cowrielaw13.LexOwn'. -/
def lexOwnUptoCard : Claim7 := { stood := { row := lexOwnUptoRow, standIns := [], harness := (true, "7f8ae538b1ca4f425b5a70599ac541a13da632d65f55aac1cef20187faa6bd61"), looks := true }, kinds := [], alts := [], laidByText := true, laidKinds := [.listed, .data], laidTests := true, laidLooks := .later }
def LexOwnUptoCardSaid : Prop := Claim7.holds Tryz.pinned (.plain (OpenSpec.upto lexOwnSpec)) lexOwnUptoCard

/-- THE SECOND FORM's CARD OF 'cowrielaw13.LexPlain'. -/
def lexPlainUptoCard : Claim7 := { stood := { row := lexPlainUptoRow, standIns := [], harness := (true, "7f8ae538b1ca4f425b5a70599ac541a13da632d65f55aac1cef20187faa6bd61"), looks := true }, kinds := [], alts := [], laidByText := true, laidKinds := [.listed, .data], laidTests := true, laidLooks := .later }
def LexPlainUptoCardSaid : Prop := Claim7.holds Tryz.pinned (.plain (OpenSpec.upto lexPlainSpec)) lexPlainUptoCard

/-- THE SECOND FORM's CARD OF 'cowrielaw13.LexQuoted'. -/
def lexQuotedUptoCard : Claim7 := { stood := { row := lexQuotedUptoRow, standIns := [], harness := (true, "7f8ae538b1ca4f425b5a70599ac541a13da632d65f55aac1cef20187faa6bd61"), looks := true }, kinds := [], alts := [], laidByText := true, laidKinds := [.listed, .data], laidTests := true, laidLooks := .later }
def LexQuotedUptoCardSaid : Prop := Claim7.holds Tryz.pinned (.plain (OpenSpec.upto lexQuotedSpec)) lexQuotedUptoCard

/-- THE SECOND FORM's CARD OF 'cowrielaw13.LexHeredocs'. -/
def lexHeredocsUptoCard : Claim7 := { stood := { row := lexHeredocsUptoRow, standIns := [], harness := (true, "7f8ae538b1ca4f425b5a70599ac541a13da632d65f55aac1cef20187faa6bd61"), looks := true }, kinds := [], alts := [], laidByText := true, laidKinds := [.listed, .data], laidTests := true, laidLooks := .later }
def LexHeredocsUptoCardSaid : Prop := Claim7.holds Tryz.pinned (.plain (OpenSpec.upto lexHeredocsSpec)) lexHeredocsUptoCard
end Rows
end Go.Proofs.YtfkdeknblbmibaaGreatDoor
