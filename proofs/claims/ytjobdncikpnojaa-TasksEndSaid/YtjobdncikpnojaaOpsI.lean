/-
  An argument that is a slice of structs of ints: its cells, by index. It speaks of no program.
-/
import Derived.Test.YtjobdncikpnojaaOwn
import Derived.Test.YtjobdncikpnojaaGen
import Derived.ProofKit
import Derived.OpenShut
namespace Go.Proofs.Ytjobdncikpnojaa
open Go.ChangeShapes Go.WideShapes Go.ChangeAt Go.RowKit Go.Deep

/-- A script of calls: F numbers each. -/
structure OpsI (w : World) (a : Option Addr) (len b off F : Nat) (V : Nat → Nat → Int) : Prop where
  at_ : 0 < len → a = some ⟨b, off, none⟩
  lt : 0 < len → b < w.heap.size
  cell : ∀ i, i < len → ∀ j, j < F → w.cell? ⟨b, off + i * F + j, none⟩ = some (.int .i64 (V i j))
  i64 : ∀ i, i < len → ∀ j, j < F → -9223372036854775808 ≤ V i j ∧ V i j ≤ 9223372036854775807
theorem OpsI.below {w w' : World} {a : Option Addr} {len b off F : Nat} {V : Nat → Nat → Int} (o : OpsI w a len b off F V) (h : Below w.heap.size w w') : OpsI w' a len b off F V where
  at_ := o.at_
  lt := fun hl => Nat.lt_of_lt_of_le (o.lt hl) h.size
  cell := fun i hi j hj => (h.cell (p := ⟨b, off + i * F + j, none⟩) (o.lt (by omega))).trans (o.cell i hi j hj)
  i64 := o.i64
theorem OpsI.c0 {w : World} {a : Option Addr} {len b off F : Nat} {V : Nat → Nat → Int} (o : OpsI w a len b off F V) {i : Nat} (hi : i < len) (hF : 0 < F) : w.cell? ⟨b, off + i * F, none⟩ = some (.int .i64 (V i 0)) := o.cell i hi 0 hF

theorem open_opsI {H : Type} {enc : TypeId × Value → H} {P : Program} {W : World} {base : Nat} {spare : Nat → Bool} {held : Bool} {fuel : Nat} {v : Value} {x : DataW H × List MemPlace} {t e : TypeId} {fs : Array Field}
    (ht : P.underlying t = some (.slice e)) (he : P.underlying e = some (.struct fs)) (hone : oneCellFields P fs = true) (hC : P.cellsOf e = fs.size) (hF : 0 < fs.size)
    (hint : ∀ j, j < fs.size → ∃ f, fs[j]? = some f ∧ P.underlying f.type = some (.int .i64)) (h : DataW.trod enc P W base spare held fuel t [v] = some x) :
    ∃ (a : Option Addr) (len cap b off : Nat) (V : Nat → Nat → Int), v = .slice a len cap ∧ len ≤ 9223372036854775807 ∧ OpsI W a len b off fs.size V := by
  obtain ⟨a, len, cap, b, off, V, rfl, hl, hm, hat, hlt, hc⟩ := open_rows ht he hone hC hF h
  have key : ∀ i j, i < len → j < fs.size → ∃ z : Int, W.cell? ⟨b, off + i * fs.size + j, none⟩ = some (.int .i64 z) ∧ (Lit.int .i64 z).wf = true := fun i j hi hj => by
    obtain ⟨f, hf, h3⟩ := hint j hj
    obtain ⟨hcell, n, y, hy⟩ := hc i hi j f hf
    obtain ⟨z, hz, _, hw⟩ := DataW.trod_int h3 hy
    rw [List.cons.injEq] at hz
    exact ⟨z, by rw [← hz.1, Nat.add_assoc]; exact hcell, hw⟩
  have key2 : ∀ i j, ∃ z : Int, i < len → j < fs.size → W.cell? ⟨b, off + i * fs.size + j, none⟩ = some (.int .i64 z) ∧ (Lit.int .i64 z).wf = true := fun i j => by
    by_cases hij : i < len ∧ j < fs.size
    · obtain ⟨z, hz⟩ := key i j hij.1 hij.2
      exact ⟨z, fun _ _ => hz⟩
    · exact ⟨0, fun h1 h2 => absurd ⟨h1, h2⟩ hij⟩
  refine ⟨a, len, cap, b, off, fun i j => Classical.choose (key2 i j), rfl, by unfold maxLen at hm; omega, hat, hlt, fun i hi j hj => (Classical.choose_spec (key2 i j) hi hj).1, fun i hi j hj => ?_⟩
  exact bounds_i64 (Classical.choose_spec (key2 i j) hi hj).2
end Go.Proofs.Ytjobdncikpnojaa
