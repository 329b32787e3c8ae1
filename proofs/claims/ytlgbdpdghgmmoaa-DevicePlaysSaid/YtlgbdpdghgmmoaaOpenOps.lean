/-
  A script of calls, out of its reading as an argument.
-/
import Derived.Test.YtlgbdpdghgmmoaaOps
import Derived.Test.YtlgbdpdghgmmoaaOpen
import Derived.Test.YtlgbdpdghgmmoaaGen
import Derived.ProofKit
import Derived.OpenShut
namespace Go.Proofs.Ytlgbdpdghgmmoaa
open Go.ChangeShapes Go.WideShapes Go.ChangeAt Go.RowKit

theorem open_ops {H : Type} {enc : TypeId × Value → H} {W : World} {base : Nat} {spare : Nat → Bool} {held : Bool} {fuel : Nat} {v : Value} {x : DataW H × List MemPlace}
    (h : DataW.trod enc Try.prog W base spare held fuel 33 [v] = some x) :
    ∃ (a : Option Addr) (len cap b off : Nat) (f : Nat → Op1), v = .slice a len cap ∧ len ≤ 9223372036854775807 ∧ OpsAt W a len b off f := by
  obtain ⟨a, len, cap, b, off, V, rfl, hl, hm, hat, hlt, hc⟩ := open_rows Try.underlying33 Try.underlying36 (by kernel_rfl) (by kernel_rfl) (by decide) h
  have key : ∀ i, i < len → ∃ p : Op1, OneOp W b (off + i * 5) p := fun i hi => by
    obtain ⟨h0, n0, y0, t0⟩ := hc i hi 0 _ rfl
    obtain ⟨h1, n1, y1, t1⟩ := hc i hi 1 _ rfl
    obtain ⟨h2, n2, y2, t2⟩ := hc i hi 2 _ rfl
    obtain ⟨h3, n3, y3, t3⟩ := hc i hi 3 _ rfl
    obtain ⟨h4, n4, y4, t4⟩ := hc i hi 4 _ rfl
    obtain ⟨z0, hz0, _, _⟩ := DataW.trod_int Try.underlying3 t0
    obtain ⟨z1, hz1, _, _⟩ := DataW.trod_int Try.underlying3 t1
    obtain ⟨a2, l2, c2, b2, o2, L2, hz2, hb2, hl2⟩ := open_bytes t2
    obtain ⟨z3, hz3, _⟩ := DataW.trod_bool Try.underlying4 t3
    obtain ⟨z4, hz4, _⟩ := DataW.trod_bool Try.underlying4 t4
    rw [List.cons.injEq] at hz0 hz1 hz3 hz4
    rw [hz0.1] at h0
    rw [hz1.1] at h1
    rw [hz2] at h2
    rw [hz3.1] at h3
    rw [hz4.1] at h4
    exact ⟨⟨z0, z1, a2, l2, c2, b2, o2, L2, z3, z4⟩, h0, h1, h2, h3, h4, hb2, hl2⟩
  obtain ⟨f, hf⟩ := Go.Deep.choose_lt key
  exact ⟨a, len, cap, b, off, f, rfl, by unfold maxLen at hm; omega, hat, hf⟩
end Go.Proofs.Ytlgbdpdghgmmoaa
