/-
  An argument that is a slice of slices of ints: its cells, by index.
-/
import Derived.Test.YtjobdncikpnojaaIntsI
import Derived.Deep.Slices
namespace Go.Proofs.Ytjobdncikpnojaa
open Go.ChangeShapes Go.WideShapes Go.ChangeAt Go.RowKit Go.Deep
/-- Rows of numbers. -/
structure PlansI (w : World) (a : Option Addr) (len b off : Nat) (A : Nat → Option Addr) (Ln Cp B O : Nat → Nat) (V : Nat → Nat → Int) : Prop where
  at_ : 0 < len → a = some ⟨b, off, none⟩
  lt : 0 < len → b < w.heap.size
  cell : ∀ i, i < len → w.cell? ⟨b, off + i, none⟩ = some (.slice (A i) (Ln i) (Cp i))
  row : ∀ i, i < len → Ln i ≤ 9223372036854775807 ∧ IntsI w (A i) (Ln i) (B i) (O i) (V i)
theorem PlansI.below {w w' : World} {a : Option Addr} {len b off : Nat} {A : Nat → Option Addr} {Ln Cp B O : Nat → Nat} {V : Nat → Nat → Int} (o : PlansI w a len b off A Ln Cp B O V) (h : Below w.heap.size w w') : PlansI w' a len b off A Ln Cp B O V where
  at_ := o.at_
  lt := fun hl => Nat.lt_of_lt_of_le (o.lt hl) h.size
  cell := fun i hi => (h.cell (p := ⟨b, off + i, none⟩) (o.lt (by omega))).trans (o.cell i hi)
  row := fun i hi => ⟨(o.row i hi).1, (o.row i hi).2.below h⟩
theorem open_plansI {H : Type} {enc : TypeId × Value → H} {P : Program} {W : World} {base : Nat} {spare : Nat → Bool} {held : Bool} {fuel : Nat} {v : Value} {x : DataW H × List MemPlace} {t e q : TypeId}
    (ht : P.underlying t = some (.slice e)) (he : P.underlying e = some (.slice q)) (hq : P.underlying q = some (.int .i64)) (hC : P.cellsOf e = 1) (hC2 : P.cellsOf q = 1) (h : DataW.trod enc P W base spare held fuel t [v] = some x) :
    ∃ (a : Option Addr) (len cap b off : Nat) (A : Nat → Option Addr) (Ln Cp B O : Nat → Nat) (V : Nat → Nat → Int), v = .slice a len cap ∧ len ≤ 9223372036854775807 ∧ PlansI W a len b off A Ln Cp B O V := by
  rcases open_slice1 ht hC h with ⟨h1, _⟩ | ⟨a, len, cap, m, n, U, D, Pl, h1, _, hlc, hcm, hmm, _, hcell⟩
  · rw [List.cons.injEq] at h1
    exact ⟨none, 0, 0, 0, 0, fun _ => none, fun _ => 0, fun _ => 0, fun _ => 0, fun _ => 0, fun _ _ => 0, h1.1, by omega, ⟨fun h => absurd h (Nat.lt_irrefl _), fun h => absurd h (Nat.lt_irrefl _), fun i hi => absurd hi (Nat.not_lt_zero i), fun i hi => absurd hi (Nat.not_lt_zero i)⟩⟩
  · rw [List.cons.injEq] at h1
    unfold maxLen at hcm
    have hlm : len ≤ m := by rw [hmm]; split <;> omega
    have hsp : 0 < len → a = ⟨a.block, a.off, none⟩ := fun h0 => by
      have h2 := (hcell 0 (by omega)).1
      obtain ⟨ab, ao, sp⟩ := a
      cases sp with
      | none => rfl
      | some s =>
        exfalso
        unfold Addr.add at h2
        rw [if_pos rfl] at h2
        unfold World.cell? at h2
        split at h2
        · simp at h2
        · cases h2
    have each : ∀ i, i < len → ∃ y : Option Addr × Nat × Nat × Nat × Nat × (Nat → Int), U i = .slice y.1 y.2.1 y.2.2.1 ∧ y.2.1 ≤ 9223372036854775807 ∧ IntsI W y.1 y.2.1 y.2.2.2.1 y.2.2.2.2.1 y.2.2.2.2.2 := fun i hi => by
      obtain ⟨a', len', cap', b', off', V', h2, h3, h4⟩ := open_intsI he hq hC2 (hcell i (by omega)).2
      exact ⟨(a', len', cap', b', off', V'), h2, h3, h4⟩
    obtain ⟨y, hy⟩ := choose_lt each
    refine ⟨some a, len, cap, a.block, a.off, fun i => (y i).1, fun i => (y i).2.1, fun i => (y i).2.2.1, fun i => (y i).2.2.2.1, fun i => (y i).2.2.2.2.1, fun i => (y i).2.2.2.2.2, h1.1, by omega, ⟨fun h0 => by rw [← hsp h0], fun h0 => ?_, fun i hi => ?_, fun i hi => (hy i hi).2⟩⟩
    · have h2 := (hcell 0 (by omega)).1
      rw [hsp h0, addr_add] at h2
      exact World.block_lt_of_cell? W ⟨a.block, a.off + 0, none⟩ h2
    · have h2 := (hcell i (by omega)).1
      rw [hsp (by omega), addr_add, (hy i hi).1] at h2
      exact h2
end Go.Proofs.Ytjobdncikpnojaa
