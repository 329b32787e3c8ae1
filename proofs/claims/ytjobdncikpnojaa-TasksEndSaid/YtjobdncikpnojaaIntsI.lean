/-
  An argument that is a slice of ints: its cells, by index. It speaks of no program.
-/
import Derived.Test.YtjobdncikpnojaaOpsI
import Derived.ChangeSlices
namespace Go.Proofs.Ytjobdncikpnojaa
open Go.ChangeShapes Go.WideShapes Go.ChangeAt Go.RowKit Go.Deep

structure IntsI (w : World) (a : Option Addr) (len b off : Nat) (V : Nat → Int) : Prop where
  at_ : 0 < len → a = some ⟨b, off, none⟩
  lt : 0 < len → b < w.heap.size
  cell : ∀ i, i < len → w.cell? ⟨b, off + i, none⟩ = some (.int .i64 (V i))
  i64 : ∀ i, i < len → -9223372036854775808 ≤ V i ∧ V i ≤ 9223372036854775807
theorem IntsI.below {w w' : World} {a : Option Addr} {len b off : Nat} {V : Nat → Int} (o : IntsI w a len b off V) (h : Below w.heap.size w w') : IntsI w' a len b off V where
  at_ := o.at_
  lt := fun hl => Nat.lt_of_lt_of_le (o.lt hl) h.size
  cell := fun i hi => (h.cell (p := ⟨b, off + i, none⟩) (o.lt (by omega))).trans (o.cell i hi)
  i64 := o.i64
theorem open_intsI {H : Type} {enc : TypeId × Value → H} {P : Program} {W : World} {base : Nat} {spare : Nat → Bool} {held : Bool} {fuel : Nat} {v : Value} {x : DataW H × List MemPlace} {t e : TypeId}
    (ht : P.underlying t = some (.slice e)) (he : P.underlying e = some (.int .i64)) (hC : P.cellsOf e = 1) (h : DataW.trod enc P W base spare held fuel t [v] = some x) :
    ∃ (a : Option Addr) (len cap b off : Nat) (V : Nat → Int), v = .slice a len cap ∧ len ≤ 9223372036854775807 ∧ IntsI W a len b off V := by
  rcases open_ints ht he hC h with ⟨h1, _⟩ | ⟨a, len, cap, zs, h1, _, hlc, hcm, hzl, _, hcell, hwf⟩
  · rw [List.cons.injEq] at h1
    exact ⟨none, 0, 0, 0, 0, fun _ => 0, h1.1, by omega, ⟨fun h => absurd h (Nat.lt_irrefl _), fun h => absurd h (Nat.lt_irrefl _), fun i hi => absurd hi (Nat.not_lt_zero i), fun i hi => absurd hi (Nat.not_lt_zero i)⟩⟩
  · rw [List.cons.injEq] at h1
    unfold maxLen at hcm
    have hlz : len ≤ zs.length := by rw [hzl]; split <;> omega
    have hsp : 0 < len → a = ⟨a.block, a.off, none⟩ := fun h0 => by
      have h2 := hcell 0 (by omega)
      obtain ⟨ab, ao, sp⟩ := a
      cases sp with
      | none => rfl
      | some s =>
        exfalso
        unfold Addr.add at h2
        rw [if_pos rfl] at h2
        unfold World.cell? at h2
        split at h2
        · simp at h2
        · cases h2
    refine ⟨some a, len, cap, a.block, a.off, fun i => zs.getD i 0, h1.1, by omega, ⟨fun h0 => by rw [← hsp h0], fun h0 => ?_, fun i hi => ?_, fun i hi => ?_⟩⟩
    · have h2 := hcell 0 (by omega)
      rw [hsp h0, addr_add] at h2
      exact World.block_lt_of_cell? W ⟨a.block, a.off + 0, none⟩ h2
    · have h2 := hcell i (by omega)
      rw [hsp (by omega), addr_add] at h2
      exact h2
    · have hm : zs.getD i 0 ∈ zs := by
        rw [List.getD_eq_getElem?_getD, List.getElem?_eq_getElem (show i < zs.length by omega)]
        exact List.getElem_mem _
      exact bounds_i64 (hwf _ hm)
end Go.Proofs.Ytjobdncikpnojaa
