/-
  A script of calls, out of its reading as an argument.
-/
import Derived.Test.YteafbkgaihjieaaOps
import Derived.ProofKit
import Derived.OpenShut
namespace Go.Proofs.Yteafbkgaihjieaa
open Go.ChangeShapes Go.WideShapes Go.ChangeAt Go.RowKit
/-- A script, out of its reading. -/
theorem open_ops {H : Type} {enc : TypeId × Value → H} {W : World} {base : Nat} {spare : Nat → Bool} {held : Bool} {fuel : Nat} {v : Value} {x : DataW H × List MemPlace}
    (h : DataW.trod enc Try.prog W base spare held fuel 22 [v] = some x) :
    ∃ (a : Option Addr) (len cap b off : Nat) (K Wh L : Nat → Int), v = .slice a len cap ∧ len ≤ 9223372036854775807 ∧ OpsAt W a len b off K Wh L := by
  obtain ⟨a, len, cap, b, off, V, rfl, hl, hm, hat, hlt, hc⟩ := open_rows Try.underlying22 Try.underlying27 (by kernel_rfl) (by kernel_rfl) (by decide) h
  have key : ∀ (j : Nat) (f : Field) (hf : (#[{ name := "Kind", type := 3, offset := 0, embedded := false, tag := "", pkgPath := "", byteOffset := 0 },
        { name := "Who", type := 3, offset := 1, embedded := false, tag := "", pkgPath := "", byteOffset := 8 },
        { name := "Lock", type := 3, offset := 2, embedded := false, tag := "", pkgPath := "", byteOffset := 16 }] : Array Field)[j]? = some f) (h3 : f.type = 3),
      ∀ i, i < len → ∃ z : Int, W.cell? ⟨b, off + (i * 3 + j), none⟩ = some (.int .i64 z) ∧ (Lit.int .i64 z).wf = true := fun j f hf h3 i hi => by
    obtain ⟨hcell, n, y, hy⟩ := hc i hi j f hf
    rw [h3] at hy
    obtain ⟨z, hz, _, hw⟩ := DataW.trod_int Try.underlying3 hy
    rw [List.cons.injEq] at hz
    exact ⟨z, by rw [← hz.1]; exact hcell, hw⟩
  obtain ⟨K, hK⟩ := Go.Deep.choose_lt (key 0 _ rfl rfl)
  obtain ⟨Wh, hW⟩ := Go.Deep.choose_lt (key 1 _ rfl rfl)
  obtain ⟨L, hL⟩ := Go.Deep.choose_lt (key 2 _ rfl rfl)
  exact ⟨a, len, cap, b, off, K, Wh, L, rfl, by unfold maxLen at hm; omega,
    { at_ := hat, lt := hlt, ck := fun i hi => (hK i hi).1, cw := fun i hi => (hW i hi).1, cl := fun i hi => (hL i hi).1, wle := fun i hi => (bounds_i64 (hW i hi).2).2 }⟩

end Go.Proofs.Yteafbkgaihjieaa
