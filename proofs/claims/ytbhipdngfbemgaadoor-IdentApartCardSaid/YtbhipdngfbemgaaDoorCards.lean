/-
  DERIVED. GIVEN WITH THE SEED: THE CARDS: each row of YtbhipdngfbemgaaDoorRows.lean that lists a variable, with what it lists TIED to the program's text (the seventh form; the later family's looks); each row that meets fmt, with fmt's text TOLD by the authors' own Lean function (tested against real Go, not proved from fmt's source: count such statements apart). THE CARD IS WHAT COUNTS. Prove the row's statement (the work); the ties are given (YtbhipdngfbemgaaDoorTie.lean); close each card by the builder's one call (the guide's Derived/Test/ToyasCard.lean, 'card_holds'). Laid BY PROGRAM, IN A SANDBOX (cutbox-door.mjs). By AI agents, Wed Nov 11 2026. No macro, syntax, notation, axiom, sorry.
-/
import Derived.Test.YtbhipdngfbemgaaDoorRows
import GoSem.ClaimSeven
namespace Go.Proofs.YtbhipdngfbemgaaDoor
namespace Rows

/-- THE TIED CARD OF 'ladderbacklaw46.RungStays'. -/
def rungStaysCard : Claim7 := { stood := { row := rungStaysRow, standIns := [], harness := (true, "1281e0eb526347290b054539960f2c10e26b18b4f26c9433120d41bed517bf9e"), looks := false }, kinds := [], alts := [], laidByText := true, laidKinds := [.data, .data], laidTests := true, laidLooks := .later }
def RungStaysCardSaid : Prop := Claim7.holds Tryd.pinned (.plain (OpenSpec.ofChange rungStaysSpec)) rungStaysCard

/-- THE TIED CARD OF 'ladderbacklaw05.IdentRight'. -/
def identRightCard : Claim7 := { stood := { row := identRightRow, standIns := [], harness := (true, "1281e0eb526347290b054539960f2c10e26b18b4f26c9433120d41bed517bf9e"), looks := false }, kinds := [], alts := [], laidByText := true, laidKinds := [.data, .data, .data, .data, .data, .data, .pinned], laidTests := true, laidLooks := .later }
def IdentRightCardSaid : Prop := Claim7.holds Tryd.pinned (.plain (OpenSpec.ofChange identRightSpec)) identRightCard

/-- THE TIED CARD OF 'ladderbacklaw05.IdentUnique'. -/
def identUniqueCard : Claim7 := { stood := { row := identUniqueRow, standIns := [], harness := (true, "1281e0eb526347290b054539960f2c10e26b18b4f26c9433120d41bed517bf9e"), looks := false }, kinds := [], alts := [], laidByText := true, laidKinds := [.data, .data, .data, .data, .data, .data, .pinned], laidTests := true, laidLooks := .later }
def IdentUniqueCardSaid : Prop := Claim7.holds Tryd.pinned (.plain (OpenSpec.ofChange identUniqueSpec)) identUniqueCard

/-- THE TIED CARD OF 'ladderbacklaw05.IdentApart'. -/
def identApartCard : Claim7 := { stood := { row := identApartRow, standIns := [], harness := (true, "1281e0eb526347290b054539960f2c10e26b18b4f26c9433120d41bed517bf9e"), looks := false }, kinds := [], alts := [], laidByText := true, laidKinds := [.data, .data, .data, .data, .data, .data, .pinned], laidTests := true, laidLooks := .later }
def IdentApartCardSaid : Prop := Claim7.holds Tryd.pinned (.plain (OpenSpec.ofChange identApartSpec)) identApartCard

/-- THE SECOND FORM's CARD OF 'ladderbacklaw46.RungStays'. -/
def rungStaysUptoCard : Claim7 := { stood := { row := rungStaysUptoRow, standIns := [], harness := (true, "1281e0eb526347290b054539960f2c10e26b18b4f26c9433120d41bed517bf9e"), looks := false }, kinds := [], alts := [], laidByText := true, laidKinds := [.data, .data], laidTests := true, laidLooks := .later }
def RungStaysUptoCardSaid : Prop := Claim7.holds Tryd.pinned (.plain (OpenSpec.upto rungStaysSpec)) rungStaysUptoCard

/-- THE SECOND FORM's CARD OF 'ladderbacklaw05.IdentRight'. -/
def identRightUptoCard : Claim7 := { stood := { row := identRightUptoRow, standIns := [], harness := (true, "1281e0eb526347290b054539960f2c10e26b18b4f26c9433120d41bed517bf9e"), looks := false }, kinds := [], alts := [], laidByText := true, laidKinds := [.data, .data, .data, .data, .data, .data, .pinned], laidTests := true, laidLooks := .later }
def IdentRightUptoCardSaid : Prop := Claim7.holds Tryd.pinned (.plain (OpenSpec.upto identRightSpec)) identRightUptoCard

/-- THE SECOND FORM's CARD OF 'ladderbacklaw05.IdentUnique'. -/
def identUniqueUptoCard : Claim7 := { stood := { row := identUniqueUptoRow, standIns := [], harness := (true, "1281e0eb526347290b054539960f2c10e26b18b4f26c9433120d41bed517bf9e"), looks := false }, kinds := [], alts := [], laidByText := true, laidKinds := [.data, .data, .data, .data, .data, .data, .pinned], laidTests := true, laidLooks := .later }
def IdentUniqueUptoCardSaid : Prop := Claim7.holds Tryd.pinned (.plain (OpenSpec.upto identUniqueSpec)) identUniqueUptoCard

/-- THE SECOND FORM's CARD OF 'ladderbacklaw05.IdentApart'. -/
def identApartUptoCard : Claim7 := { stood := { row := identApartUptoRow, standIns := [], harness := (true, "1281e0eb526347290b054539960f2c10e26b18b4f26c9433120d41bed517bf9e"), looks := false }, kinds := [], alts := [], laidByText := true, laidKinds := [.data, .data, .data, .data, .data, .data, .pinned], laidTests := true, laidLooks := .later }
def IdentApartUptoCardSaid : Prop := Claim7.holds Tryd.pinned (.plain (OpenSpec.upto identApartSpec)) identApartUptoCard
end Rows
end Go.Proofs.YtbhipdngfbemgaaDoor
