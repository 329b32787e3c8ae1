/-
  Rows of numbers, out of their reading as an argument.
-/
import Derived.Test.YtjobdncikpnojaaRows
import Derived.Test.YtjobdncikpnojaaPlansI
namespace Go.Proofs.Ytjobdncikpnojaa
open Go.ChangeShapes Go.WideShapes Go.ChangeAt Go.RowKit Go.Deep
theorem open_plans {H : Type} {enc : TypeId × Value → H} {W : World} {base : Nat} {spare : Nat → Bool} {held : Bool} {fuel : Nat} {v : Value} {x : DataW H × List MemPlace}
    (h : DataW.trod enc Try.prog W base spare held fuel 39 [v] = some x) :
    ∃ (a : Option Addr) (len cap b off : Nat) (A : Nat → Option Addr) (Ln Cp B O : Nat → Nat) (V : Nat → Nat → Int), v = .slice a len cap ∧ len ≤ 9223372036854775807 ∧ PlansI W a len b off A Ln Cp B O V :=
  open_plansI Try.underlying39 Try.underlying43 Try.underlying3 (by kernel_rfl) (by kernel_rfl) h
end Go.Proofs.Ytjobdncikpnojaa
