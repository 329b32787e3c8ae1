/-
  An argument that is a slice of structs whose fields are one cell each: its cells, by index. It speaks of no program.
-/
import Derived.Deep.Slices
import Derived.Deep.Fields
import Derived.ChangeSame
import Derived.WalkKit
namespace Go.Proofs.Ytjobdncikpnojaa
open Go.ChangeShapes Go.WideShapes Go.Deep Go.RowKit
section
variable {H : Type} {enc : TypeId × Value → H} {P : Program} {w : World} {base : Nat} {spare : Nat → Bool} {held : Bool}


/-- A slice of structs, down to the cells: the address stands where there is an element. -/
theorem open_rows {t e : TypeId} {fs : Array Field} {fuel : Nat} {v : Value} {x : DataW H × List MemPlace} (ht : P.underlying t = some (.slice e)) (he : P.underlying e = some (.struct fs))
    (hone : oneCellFields P fs = true) (hC : P.cellsOf e = fs.size) (hF : 0 < fs.size) (h : DataW.trod enc P w base spare held fuel t [v] = some x) :
    ∃ (a : Option Addr) (len cap b off : Nat) (V : Nat → Nat → Value), v = .slice a len cap ∧ len ≤ cap ∧ cap ≤ maxLen ∧ (0 < len → a = some ⟨b, off, none⟩) ∧ (0 < len → b < w.heap.size) ∧
      ∀ i, i < len → ∀ (j : Nat) (f : Field), fs[j]? = some f → w.cell? ⟨b, off + (i * fs.size + j), none⟩ = some (V i j) ∧ ∃ n y, DataW.trod enc P w base spare held n f.type [V i j] = some y := by
  rcases open_slice ht h with ⟨hcs, _⟩ | ⟨a, len, cap, m, n, D, Pl, hcs, hb, hl, hm, hmm, hx, hi⟩
  · simp only [List.cons.injEq, and_true] at hcs
    subst hcs
    exact ⟨none, 0, 0, 0, 0, fun _ _ => undef, rfl, Nat.le_refl _, Nat.zero_le _, fun h => absurd h (Nat.lt_irrefl _), fun h => absurd h (Nat.lt_irrefl _), fun i hi => absurd hi (Nat.not_lt_zero _)⟩
  · simp only [List.cons.injEq, and_true] at hcs
    subst hcs
    have hlm : len ≤ m := by rw [hmm]; split <;> omega
    have key : ∀ i, i < len → ∃ cs' : List Value, cs'.length = fs.size ∧ (∀ j, j < fs.size → w.cell? (a.add (i * fs.size + j)) = cs'[j]?) ∧
        ∀ (j : Nat) (f : Field), fs[j]? = some f → ∃ n y, DataW.trod enc P w base spare held n f.type [cs'.getD j undef] = some y := fun i hil => by
      obtain ⟨cs', hc, ht'⟩ := hi i (by omega)
      rw [hC] at hc
      obtain ⟨ys, n', _, _, _, hyl, hf⟩ := DataW.trod_struct he ht'
      obtain ⟨_, hcl, hat⟩ := World.cells?_some hc
      refine ⟨cs', by omega, fun j hj => by rw [← Go.Deep.add_add]; exact hat j hj, fun j f hj => ?_⟩
      obtain ⟨ho, hk⟩ := hone_of hone j f hj
      have hjl : j < fs.size := (Array.getElem?_eq_some_iff.1 hj).1
      have h1 := hf j f hj
      rw [ho, hk, take1_drop cs' j undef (by omega)] at h1
      exact ⟨n', _, h1.trans (List.getElem?_eq_getElem (by omega))⟩
    obtain ⟨C, hC'⟩ := choose_lt (α := List Value) key
    by_cases h0 : 0 < len
    · obtain ⟨b, off, spot⟩ := a
      obtain ⟨hl0, hc0, _⟩ := hC' 0 h0
      have h00 := hc0 0 hF
      rw [List.getElem?_eq_getElem (by omega), Nat.zero_mul] at h00
      have hspot : spot = none := by simpa [Addr.add] using World.cell?_spot h00
      subst hspot
      have hadd : ∀ k, (⟨b, off, none⟩ : Addr).add k = ⟨b, off + k, none⟩ := fun k => by unfold Addr.add; split <;> simp_all
      refine ⟨some ⟨b, off, none⟩, len, cap, b, off, fun i j => (C i).getD j undef, rfl, hl, hm, fun _ => rfl, fun _ => ?_, fun i hil j f hj => ?_⟩
      · rw [hadd] at h00
        exact World.block_lt_of_cell? w _ h00
      · obtain ⟨hl', hc', ht'⟩ := hC' i hil
        have hjl : j < fs.size := (Array.getElem?_eq_some_iff.1 hj).1
        refine ⟨?_, ht' j f hj⟩
        have := hc' j hjl
        rw [hadd] at this
        rw [this, List.getElem?_eq_getElem (by omega)]
        simp [List.getD, List.getElem?_eq_getElem (show j < (C i).length by omega)]
    · exact ⟨some a, len, cap, 0, 0, fun _ _ => undef, rfl, hl, hm, fun h => absurd h h0, fun h => absurd h h0, fun i hi => by omega⟩
end
end Go.Proofs.Ytjobdncikpnojaa
