/-
  An argument that is a slice of bytes: its cells, by index.
-/
import Derived.Test.YtlgbdpdghgmmoaaPage
import Derived.Deep.Slices
import Derived.ChangeSame
namespace Go.Proofs.Ytlgbdpdghgmmoaa
open Go.ChangeShapes Go.WideShapes Go.RowKit
variable {H : Type} {enc : TypeId × Value → H} {w : World} {base : Nat} {spare : Nat → Bool} {held : Bool}

theorem open_bytes {fuel : Nat} {v : Value} {x : DataW H × List MemPlace} (h : DataW.trod enc Try.prog w base spare held fuel 22 [v] = some x) :
    ∃ (a : Option Addr) (len cap b off : Nat) (L : List Int), v = .slice a len cap ∧ BytesAt w a len cap b off L ∧ len ≤ 9223372036854775807 := by
  rcases open_ints (k := .u8) Try.underlying22 Try.underlying5 (by kernel_rfl) h with ⟨hcs, _⟩ | ⟨a, len, cap, zs, hcs, _, hl, hm, hz, _, hc, hw⟩
  · simp only [List.cons.injEq, and_true] at hcs
    subst hcs
    exact ⟨none, 0, 0, 0, 0, [], rfl, ⟨fun _ => rfl, fun h => absurd h (Nat.lt_irrefl _), fun h => absurd h (Nat.lt_irrefl _), Nat.le_refl _, rfl, fun i hi => absurd hi (Nat.not_lt_zero _), fun x hx => by cases hx⟩, by omega⟩
  · simp only [List.cons.injEq, and_true] at hcs
    subst hcs
    have hlz : len ≤ zs.length := by rw [hz]; split <;> omega
    have hlen : (zs.take len).length = len := by rw [List.length_take]; omega
    have hu : ∀ x ∈ zs.take len, 0 ≤ x ∧ x ≤ 255 := fun x hx => by
      have := hw x (List.mem_of_mem_take hx)
      have h1 : IntKind.u8.min = 0 := rfl
      have h2 : IntKind.u8.max = 255 := rfl
      simp [Lit.wf] at this
      omega
    have hmax : len ≤ 9223372036854775807 := by unfold maxLen at hm; omega
    by_cases h0 : 0 < len
    · obtain ⟨b, off, spot⟩ := a
      have h00 := hc 0 (by omega)
      have hspot : spot = none := by simpa [Addr.add] using World.cell?_spot h00
      subst hspot
      have hadd : ∀ k, (⟨b, off, none⟩ : Addr).add k = ⟨b, off + k, none⟩ := fun k => by unfold Addr.add; split <;> simp_all
      refine ⟨some ⟨b, off, none⟩, len, cap, b, off, zs.take len, rfl, ⟨fun h => (by cases h), fun _ => rfl, fun _ => ?_, hl, hlen, fun i hi => ?_, hu⟩, hmax⟩
      · rw [hadd] at h00
        exact World.block_lt_of_cell? w _ h00
      · have := hc i (by omega)
        rw [hadd] at this
        rw [this]
        simp [List.getD, List.getElem?_take, hi]
    · exact ⟨some a, len, cap, 0, 0, zs.take len, rfl, ⟨fun h => (by cases h), fun h => absurd h h0, fun h => absurd h h0, hl, hlen, fun i hi => absurd hi (by omega), hu⟩, hmax⟩
end Go.Proofs.Ytlgbdpdghgmmoaa
