/-
  DERIVED. GIVEN WITH THE SEED: THE CARDS: each row of YtcjlcbnjkkglbaaDoorRows.lean that lists a variable, with what it lists TIED to the program's text (the seventh form; the later family's looks); each row that meets fmt, with fmt's text TOLD by the authors' own Lean function (tested against real Go, not proved from fmt's source: count such statements apart). THE CARD IS WHAT COUNTS. Prove the row's statement (the work); the ties are given (YtcjlcbnjkkglbaaDoorTie.lean); close each card by the builder's one call (the guide's Derived/Test/ToyasCard.lean, 'card_holds'). Laid BY PROGRAM, IN A SANDBOX (cutbox-door.mjs). By AI agents, Wed Nov 11 2026. No macro, syntax, notation, axiom, sorry.
-/
import Derived.Test.YtcjlcbnjkkglbaaDoorRows
import GoSem.ClaimSeven
namespace Go.Proofs.YtcjlcbnjkkglbaaDoor
namespace Rows

/-- THE TIED CARD OF 'byrelaw01.BitmapLeast'. -/
def bitmapLeastCard : Claim7 := { stood := { row := bitmapLeastRow, standIns := [], harness := (true, "f77569d133b6e37f92d8c2e49ac430e6fe0e8a104ac8ba564660c19e49959f3b"), looks := false }, kinds := [], alts := [], laidByText := true, laidKinds := [.data], laidTests := true, laidLooks := .later }
def BitmapLeastCardSaid : Prop := Claim7.holds Tryd.pinned (.plain (OpenSpec.ofChange bitmapLeastSpec)) bitmapLeastCard

/-- THE TIED CARD OF 'byrelaw01.BitmapApart'. -/
def bitmapApartCard : Claim7 := { stood := { row := bitmapApartRow, standIns := [], harness := (true, "f77569d133b6e37f92d8c2e49ac430e6fe0e8a104ac8ba564660c19e49959f3b"), looks := false }, kinds := [], alts := [], laidByText := true, laidKinds := [.data], laidTests := true, laidLooks := .later }
def BitmapApartCardSaid : Prop := Claim7.holds Tryd.pinned (.plain (OpenSpec.ofChange bitmapApartSpec)) bitmapApartCard

/-- THE TIED CARD OF 'byrelaw01.BitmapPlays'. -/
def bitmapPlaysCard : Claim7 := { stood := { row := bitmapPlaysRow, standIns := [], harness := (true, "f77569d133b6e37f92d8c2e49ac430e6fe0e8a104ac8ba564660c19e49959f3b"), looks := false }, kinds := [], alts := [], laidByText := true, laidKinds := [.data], laidTests := true, laidLooks := .later }
def BitmapPlaysCardSaid : Prop := Claim7.holds Tryd.pinned (.plain (OpenSpec.ofChange bitmapPlaysSpec)) bitmapPlaysCard

/-- THE TIED CARD OF 'byrelaw01.BitmapNone'. -/
def bitmapNoneCard : Claim7 := { stood := { row := bitmapNoneRow, standIns := [], harness := (true, "f77569d133b6e37f92d8c2e49ac430e6fe0e8a104ac8ba564660c19e49959f3b"), looks := false }, kinds := [], alts := [], laidByText := true, laidKinds := [.data], laidTests := true, laidLooks := .later }
def BitmapNoneCardSaid : Prop := Claim7.holds Tryd.pinned (.plain (OpenSpec.ofChange bitmapNoneSpec)) bitmapNoneCard

/-- THE SECOND FORM's CARD OF 'byrelaw01.BitmapLeast'. -/
def bitmapLeastUptoCard : Claim7 := { stood := { row := bitmapLeastUptoRow, standIns := [], harness := (true, "f77569d133b6e37f92d8c2e49ac430e6fe0e8a104ac8ba564660c19e49959f3b"), looks := false }, kinds := [], alts := [], laidByText := true, laidKinds := [.data], laidTests := true, laidLooks := .later }
def BitmapLeastUptoCardSaid : Prop := Claim7.holds Tryd.pinned (.plain (OpenSpec.upto bitmapLeastSpec)) bitmapLeastUptoCard

/-- THE SECOND FORM's CARD OF 'byrelaw01.BitmapApart'. -/
def bitmapApartUptoCard : Claim7 := { stood := { row := bitmapApartUptoRow, standIns := [], harness := (true, "f77569d133b6e37f92d8c2e49ac430e6fe0e8a104ac8ba564660c19e49959f3b"), looks := false }, kinds := [], alts := [], laidByText := true, laidKinds := [.data], laidTests := true, laidLooks := .later }
def BitmapApartUptoCardSaid : Prop := Claim7.holds Tryd.pinned (.plain (OpenSpec.upto bitmapApartSpec)) bitmapApartUptoCard

/-- THE SECOND FORM's CARD OF 'byrelaw01.BitmapPlays'. -/
def bitmapPlaysUptoCard : Claim7 := { stood := { row := bitmapPlaysUptoRow, standIns := [], harness := (true, "f77569d133b6e37f92d8c2e49ac430e6fe0e8a104ac8ba564660c19e49959f3b"), looks := false }, kinds := [], alts := [], laidByText := true, laidKinds := [.data], laidTests := true, laidLooks := .later }
def BitmapPlaysUptoCardSaid : Prop := Claim7.holds Tryd.pinned (.plain (OpenSpec.upto bitmapPlaysSpec)) bitmapPlaysUptoCard

/-- THE SECOND FORM's CARD OF 'byrelaw01.BitmapNone'. -/
def bitmapNoneUptoCard : Claim7 := { stood := { row := bitmapNoneUptoRow, standIns := [], harness := (true, "f77569d133b6e37f92d8c2e49ac430e6fe0e8a104ac8ba564660c19e49959f3b"), looks := false }, kinds := [], alts := [], laidByText := true, laidKinds := [.data], laidTests := true, laidLooks := .later }
def BitmapNoneUptoCardSaid : Prop := Claim7.holds Tryd.pinned (.plain (OpenSpec.upto bitmapNoneSpec)) bitmapNoneUptoCard
end Rows
end Go.Proofs.YtcjlcbnjkkglbaaDoor
