/-
  Numbers, out of their reading as an argument.
-/
import Derived.Test.YtjobdncikpnojaaRows
import Derived.Test.YtjobdncikpnojaaIntsI
namespace Go.Proofs.Ytjobdncikpnojaa
open Go.ChangeShapes Go.WideShapes Go.ChangeAt Go.RowKit Go.Deep
theorem open_nums {H : Type} {enc : TypeId × Value → H} {W : World} {base : Nat} {spare : Nat → Bool} {held : Bool} {fuel : Nat} {v : Value} {x : DataW H × List MemPlace}
    (h : DataW.trod enc Try.prog W base spare held fuel 43 [v] = some x) :
    ∃ (a : Option Addr) (len cap b off : Nat) (V : Nat → Int), v = .slice a len cap ∧ len ≤ 9223372036854775807 ∧ IntsI W a len b off V :=
  open_intsI Try.underlying43 Try.underlying3 (by kernel_rfl) h
end Go.Proofs.Ytjobdncikpnojaa
