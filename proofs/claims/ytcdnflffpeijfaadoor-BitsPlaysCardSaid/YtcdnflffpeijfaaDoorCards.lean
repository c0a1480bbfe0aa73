/-
  DERIVED. GIVEN WITH THE SEED: THE CARDS: each row of YtcdnflffpeijfaaDoorRows.lean that lists a variable, with what it lists TIED to the program's text (the seventh form; the later family's looks); each row that meets fmt, with fmt's text TOLD by the authors' own Lean function (tested against real Go, not proved from fmt's source: count such statements apart). THE CARD IS WHAT COUNTS. Prove the row's statement (the work); the ties are given (YtcdnflffpeijfaaDoorTie.lean); close each card by the builder's one call (the guide's Derived/Test/ToyasCard.lean, 'card_holds'). Laid BY PROGRAM, IN A SANDBOX (cutbox-door.mjs). By AI agents, Wed Nov 11 2026. No macro, syntax, notation, axiom, sorry.
-/
import Derived.Test.YtcdnflffpeijfaaDoorRows
import GoSem.ClaimSeven
namespace Go.Proofs.YtcdnflffpeijfaaDoor
namespace Rows

/-- THE TIED CARD OF 'estraylaw03.BitsNext'. -/
def bitsNextCard : Claim7 := { stood := { row := bitsNextRow, standIns := [], harness := (true, "e39b9c9b7b1e35ba66c989e35a022e526b957378f303ef85c6dad3e207bc8351"), looks := false }, kinds := [], alts := [], laidByText := true, laidKinds := [.data], laidTests := true, laidLooks := .later }
def BitsNextCardSaid : Prop := Claim7.holds Tryd.pinned (.plain (OpenSpec.ofChange bitsNextSpec)) bitsNextCard

/-- THE TIED CARD OF 'estraylaw03.BitsStays'. -/
def bitsStaysCard : Claim7 := { stood := { row := bitsStaysRow, standIns := [], harness := (true, "e39b9c9b7b1e35ba66c989e35a022e526b957378f303ef85c6dad3e207bc8351"), looks := false }, kinds := [], alts := [], laidByText := true, laidKinds := [.data], laidTests := true, laidLooks := .later }
def BitsStaysCardSaid : Prop := Claim7.holds Tryd.pinned (.plain (OpenSpec.ofChange bitsStaysSpec)) bitsStaysCard

/-- THE TIED CARD OF 'estraylaw03.BitsEnds'. -/
def bitsEndsCard : Claim7 := { stood := { row := bitsEndsRow, standIns := [], harness := (true, "e39b9c9b7b1e35ba66c989e35a022e526b957378f303ef85c6dad3e207bc8351"), looks := false }, kinds := [], alts := [], laidByText := true, laidKinds := [.data], laidTests := true, laidLooks := .later }
def BitsEndsCardSaid : Prop := Claim7.holds Tryd.pinned (.plain (OpenSpec.ofChange bitsEndsSpec)) bitsEndsCard

/-- THE TIED CARD OF 'estraylaw03.BitsSets'. -/
def bitsSetsCard : Claim7 := { stood := { row := bitsSetsRow, standIns := [], harness := (true, "e39b9c9b7b1e35ba66c989e35a022e526b957378f303ef85c6dad3e207bc8351"), looks := false }, kinds := [], alts := [], laidByText := true, laidKinds := [.data], laidTests := true, laidLooks := .later }
def BitsSetsCardSaid : Prop := Claim7.holds Tryd.pinned (.plain (OpenSpec.ofChange bitsSetsSpec)) bitsSetsCard

/-- THE TIED CARD OF 'estraylaw03.BitsUnion'. -/
def bitsUnionCard : Claim7 := { stood := { row := bitsUnionRow, standIns := [], harness := (true, "e39b9c9b7b1e35ba66c989e35a022e526b957378f303ef85c6dad3e207bc8351"), looks := false }, kinds := [], alts := [], laidByText := true, laidKinds := [.data], laidTests := true, laidLooks := .later }
def BitsUnionCardSaid : Prop := Claim7.holds Tryd.pinned (.plain (OpenSpec.ofChange bitsUnionSpec)) bitsUnionCard

/-- THE TIED CARD OF 'estraylaw03.BitsPlays'. -/
def bitsPlaysCard : Claim7 := { stood := { row := bitsPlaysRow, standIns := [], harness := (true, "e39b9c9b7b1e35ba66c989e35a022e526b957378f303ef85c6dad3e207bc8351"), looks := false }, kinds := [], alts := [], laidByText := true, laidKinds := [.data], laidTests := true, laidLooks := .later }
def BitsPlaysCardSaid : Prop := Claim7.holds Tryd.pinned (.plain (OpenSpec.ofChange bitsPlaysSpec)) bitsPlaysCard

/-- THE TIED CARD OF 'estraylaw03.BitsNil'. -/
def bitsNilCard : Claim7 := { stood := { row := bitsNilRow, standIns := [], harness := (true, "e39b9c9b7b1e35ba66c989e35a022e526b957378f303ef85c6dad3e207bc8351"), looks := false }, kinds := [], alts := [], laidByText := true, laidKinds := [.data], laidTests := true, laidLooks := .later }
def BitsNilCardSaid : Prop := Claim7.holds Tryd.pinned (.plain (OpenSpec.ofChange bitsNilSpec)) bitsNilCard

/-- THE SECOND FORM's CARD OF 'estraylaw03.BitsNext'. -/
def bitsNextUptoCard : Claim7 := { stood := { row := bitsNextUptoRow, standIns := [], harness := (true, "e39b9c9b7b1e35ba66c989e35a022e526b957378f303ef85c6dad3e207bc8351"), looks := false }, kinds := [], alts := [], laidByText := true, laidKinds := [.data], laidTests := true, laidLooks := .later }
def BitsNextUptoCardSaid : Prop := Claim7.holds Tryd.pinned (.plain (OpenSpec.upto bitsNextSpec)) bitsNextUptoCard

/-- THE SECOND FORM's CARD OF 'estraylaw03.BitsStays'. -/
def bitsStaysUptoCard : Claim7 := { stood := { row := bitsStaysUptoRow, standIns := [], harness := (true, "e39b9c9b7b1e35ba66c989e35a022e526b957378f303ef85c6dad3e207bc8351"), looks := false }, kinds := [], alts := [], laidByText := true, laidKinds := [.data], laidTests := true, laidLooks := .later }
def BitsStaysUptoCardSaid : Prop := Claim7.holds Tryd.pinned (.plain (OpenSpec.upto bitsStaysSpec)) bitsStaysUptoCard

/-- THE SECOND FORM's CARD OF 'estraylaw03.BitsEnds'. -/
def bitsEndsUptoCard : Claim7 := { stood := { row := bitsEndsUptoRow, standIns := [], harness := (true, "e39b9c9b7b1e35ba66c989e35a022e526b957378f303ef85c6dad3e207bc8351"), looks := false }, kinds := [], alts := [], laidByText := true, laidKinds := [.data], laidTests := true, laidLooks := .later }
def BitsEndsUptoCardSaid : Prop := Claim7.holds Tryd.pinned (.plain (OpenSpec.upto bitsEndsSpec)) bitsEndsUptoCard

/-- THE SECOND FORM's CARD OF 'estraylaw03.BitsSets'. -/
def bitsSetsUptoCard : Claim7 := { stood := { row := bitsSetsUptoRow, standIns := [], harness := (true, "e39b9c9b7b1e35ba66c989e35a022e526b957378f303ef85c6dad3e207bc8351"), looks := false }, kinds := [], alts := [], laidByText := true, laidKinds := [.data], laidTests := true, laidLooks := .later }
def BitsSetsUptoCardSaid : Prop := Claim7.holds Tryd.pinned (.plain (OpenSpec.upto bitsSetsSpec)) bitsSetsUptoCard

/-- THE SECOND FORM's CARD OF 'estraylaw03.BitsUnion'. -/
def bitsUnionUptoCard : Claim7 := { stood := { row := bitsUnionUptoRow, standIns := [], harness := (true, "e39b9c9b7b1e35ba66c989e35a022e526b957378f303ef85c6dad3e207bc8351"), looks := false }, kinds := [], alts := [], laidByText := true, laidKinds := [.data], laidTests := true, laidLooks := .later }
def BitsUnionUptoCardSaid : Prop := Claim7.holds Tryd.pinned (.plain (OpenSpec.upto bitsUnionSpec)) bitsUnionUptoCard

/-- THE SECOND FORM's CARD OF 'estraylaw03.BitsPlays'. -/
def bitsPlaysUptoCard : Claim7 := { stood := { row := bitsPlaysUptoRow, standIns := [], harness := (true, "e39b9c9b7b1e35ba66c989e35a022e526b957378f303ef85c6dad3e207bc8351"), looks := false }, kinds := [], alts := [], laidByText := true, laidKinds := [.data], laidTests := true, laidLooks := .later }
def BitsPlaysUptoCardSaid : Prop := Claim7.holds Tryd.pinned (.plain (OpenSpec.upto bitsPlaysSpec)) bitsPlaysUptoCard

/-- THE SECOND FORM's CARD OF 'estraylaw03.BitsNil'. -/
def bitsNilUptoCard : Claim7 := { stood := { row := bitsNilUptoRow, standIns := [], harness := (true, "e39b9c9b7b1e35ba66c989e35a022e526b957378f303ef85c6dad3e207bc8351"), looks := false }, kinds := [], alts := [], laidByText := true, laidKinds := [.data], laidTests := true, laidLooks := .later }
def BitsNilUptoCardSaid : Prop := Claim7.holds Tryd.pinned (.plain (OpenSpec.upto bitsNilSpec)) bitsNilUptoCard
end Rows
end Go.Proofs.YtcdnflffpeijfaaDoor
