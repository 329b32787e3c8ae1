/-
  A script of calls, out of its reading as an argument.
-/
import Derived.Test.YthgajdaiklfjhaaRows
import Derived.Test.YthgajdaiklfjhaaOpsI
import Derived.Test.YthgajdaiklfjhaaIntsI
namespace Go.Proofs.Ythgajdaiklfjhaa
open Go.ChangeShapes Go.WideShapes Go.ChangeAt Go.RowKit Go.Deep
theorem open_ops {H : Type} {enc : TypeId × Value → H} {W : World} {base : Nat} {spare : Nat → Bool} {held : Bool} {fuel : Nat} {v : Value} {x : DataW H × List MemPlace}
    (h : DataW.trod enc Try.prog W base spare held fuel 22 [v] = some x) :
    ∃ (a : Option Addr) (len cap b off : Nat) (V : Nat → Nat → Int), v = .slice a len cap ∧ len ≤ 9223372036854775807 ∧ OpsI W a len b off 2 V :=
  open_opsI Try.underlying22 Try.underlying28 (by kernel_rfl) (by kernel_rfl) (by decide) (fun j hj => by
    rcases (show j = 0 ∨ j = 1 by simp at hj; omega) with rfl | rfl <;> exact ⟨_, rfl, Try.underlying3⟩) h
theorem open_nums {H : Type} {enc : TypeId × Value → H} {W : World} {base : Nat} {spare : Nat → Bool} {held : Bool} {fuel : Nat} {v : Value} {x : DataW H × List MemPlace}
    (h : DataW.trod enc Try.prog W base spare held fuel 23 [v] = some x) :
    ∃ (a : Option Addr) (len cap b off : Nat) (V : Nat → Int), v = .slice a len cap ∧ len ≤ 9223372036854775807 ∧ IntsI W a len b off V :=
  open_intsI Try.underlying23 Try.underlying3 (by kernel_rfl) h
end Go.Proofs.Ythgajdaiklfjhaa
