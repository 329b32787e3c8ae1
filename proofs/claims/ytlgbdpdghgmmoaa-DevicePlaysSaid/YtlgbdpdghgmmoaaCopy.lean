/-
  The walks of Clone and Copy: another device, just like it.
-/
import Derived.Test.YtlgbdpdghgmmoaaOps
namespace Go.Proofs.Ytlgbdpdghgmmoaa
open Go.RowKit

/-- What all slots have, as cells. -/
def devCells (f : Slots) : Nat → List Value
  | 0 => []
  | n + 1 => devCells f n ++ (f n).map (Value.int .u8)
theorem devCells_len {f : Slots} : ∀ {n : Nat}, (∀ i, i < n → (f i).length = 256) → (devCells f n).length = n * 256
  | 0, _ => rfl
  | n + 1, h => by
    rw [devCells, List.length_append, List.length_map, devCells_len (fun i hi => h i (by omega)), h n (by omega)]
    omega
theorem devCells_at {f : Slots} : ∀ {n : Nat}, (∀ i, i < n → (f i).length = 256) → ∀ i, i < n → ∀ j, j < 256 → (devCells f n)[i * 256 + j]? = ((f i).map (Value.int .u8))[j]?
  | 0, _, i, hi, _, _ => absurd hi (Nat.not_lt_zero _)
  | n + 1, h, i, hi, j, hj => by
    have hl := devCells_len (f := f) (n := n) (fun i hi => h i (by omega))
    rw [devCells]
    by_cases e : i < n
    · rw [List.getElem?_append_left (by omega)]
      exact devCells_at (fun i hi => h i (by omega)) i e j hj
    · obtain rfl : i = n := by omega
      rw [List.getElem?_append_right (by omega), hl]
      congr 1
      omega
theorem devCells_one {f : Slots} : ∀ n, ∀ u ∈ devCells f n, u.oneCell' = true
  | 0, u, hu => by cases hu
  | n + 1, u, hu => by
    rw [devCells] at hu
    rcases List.mem_append.1 hu with h | h
    · exact devCells_one n u h
    · exact ints_oneCell .u8 (f n) u h

/-- Slots' bytes, from a block's head. -/
structure Pages (w : World) (B n : Nat) (f : Slots) : Prop where
  lt : B < w.heap.size
  page : ∀ i, i < n → w.rangeAt B (i * 256) ((f i).map (Value.int .u8))
  there : ∀ i, i < n → w.there B (i * 256) 256
theorem Dev.cells {w : World} {D B n cap : Nat} {f : Slots} (d : Dev w D B n cap f) (j : Nat) (u : Value) (hu : (devCells f n)[j]? = some u) : w.cell? ⟨B, j, none⟩ = some u := by
  have hl := devCells_len d.len
  have hj : j < n * 256 := by have := (List.getElem?_eq_some_iff.1 hu).1; omega
  have h1 : j / 256 < n := by omega
  have h2 := devCells_at d.len (j / 256) h1 (j % 256) (by omega)
  have h3 : j / 256 * 256 + j % 256 = j := by omega
  rw [h3, hu] at h2
  have := d.page (j / 256) h1 (j % 256) u h2.symm
  rwa [h3] at this
theorem pages_of {w : World} {base n : Nat} {v : Value} {f : Slots} (hl : ∀ i, i < n → (f i).length = 256) (h : w.ownsRow base 55 256 v n (devCells f n)) (hv : v ≠ .slice none 0 0) :
    ∃ g cap, v = .slice (some ⟨g, 0, none⟩) n cap ∧ n ≤ cap ∧ base ≤ g ∧ Pages w g n f := by
  have hcells := @World.ownsRow.cells _ _ _ _ _ _ _ h
  have hlt := h.lt
  rcases h.2 with ⟨rfl, hn⟩ | ⟨g, cap, cur, rfl, hb, hg, hc, hm, hs, _⟩
  · exact absurd rfl hv
  · have hadd : ∀ k, (⟨g, 0, none⟩ : Addr).add k = ⟨g, k, none⟩ := fun k => by unfold Addr.add; split <;> simp_all
    have hp : ∀ i, i < n → w.rangeAt g (i * 256) ((f i).map (Value.int .u8)) := fun i hi j u hu => by
      have hj : j < 256 := by have := (List.getElem?_eq_some_iff.1 hu).1; rw [List.length_map, hl i hi] at this; exact this
      have := hcells (g := g) rfl (i * 256 + j) u (by rw [devCells_at hl i hi j hj]; exact hu)
      rwa [hadd] at this
    refine ⟨g, cap, rfl, hc, hb, ⟨(hlt g rfl).2, hp, fun i hi j hj => ⟨?_, by simp [World.frozen?, hg]⟩⟩⟩
    have hu : ((f i).map (Value.int .u8))[j]? = some (.int .u8 ((f i).getD j 0)) := by
      have := hl i hi
      simp [List.getD, show j < (f i).length by omega]
    rw [hp i hi j _ hu]; rfl

theorem clone_any {w : World} {D B n cap : Nat} {f : Slots} (d : Dev w D B n cap f) :
    Calls Try.prog 20 #[.slice (some ⟨B, 0, none⟩) n cap] w fun e w' => ∃ g cap', e = .returned (.slice (some ⟨g, 0, none⟩) n cap') ∧ n ≤ cap' ∧ w.heap.size ≤ g ∧ Pages w' g n f ∧ Below w.heap.size w w' := by
  obtain ⟨i0, hi, hz0, hz1, hz2⟩ := info_parts info55'
  have hn := d.le
  have hlen := d.len
  have hown0 : (w.alloc (.cells #[] 55)).ownsRow w.heap.size 55 256 (.slice (some ⟨w.heap.size, 0, none⟩) 0 0) 0 [] := World.ownsRow_made w #[] 0 (Nat.le_refl _) (by unfold maxLen; omega) (by simp)
  have hb0 : Below w.heap.size w (w.alloc (.cells #[] 55)) := (Below.refl _ _).alloc (Nat.le_refl _) _
  have hnews : ∀ j u, (devCells f n)[j]? = some u → (w.alloc (.cells #[] 55)).cell? ((⟨B, 0, none⟩ : Addr).add j) = some u := fun j u hu => by
    have hadd : (⟨B, 0, none⟩ : Addr).add j = ⟨B, j, none⟩ := by unfold Addr.add; split <;> simp_all
    rw [hadd, World.cell?_alloc_past _ _ _ d.ltB]
    exact d.cells j u hu
  have HN := Lib.hid hnews; clear hnews
  clear d
  have hq : ∀ W : World, Sem.run Try.prog (binOp BinOp.eql 45 (Value.slice (some ⟨B, 0, none⟩) n cap) (Value.slice none 0 0)) W = .ok (.bool false) W := fun W => by kernel_rfl
  go_enter Try.func20, Try.ntmps20
  go_wp2_with (at_builtin; refine wpList_append_own _ rfl (.tmp 5) (.tmp 6) 45 rfl w.heap.size 55 i0 (.agg zero55) 256 256 Try.underlying45 hi hz0 hz1 hz2 size_zero55 (by omega) (.slice (some ⟨w.heap.size, 0, none⟩) 0 0) 0 [] rfl hown0 ⟨B, 0, none⟩ n cap (devCells f n) rfl (devCells_len hlen) HN.out (devCells_one n) (by unfold maxLen; omega) (by omega) (by simp) ?_)
  intro v1 w1 hown1 hgrow1 hnil1
  have hb1 : Below w.heap.size w w1 := hb0.grown hgrow1 (by simp) (fun k hk => (hown0.lt k hk).1)
  obtain ⟨g, cap', rfl, hc, hg, hp⟩ := pages_of hlen hown1 hnil1
  clear hnil1 hgrow1 hown0 hb0 hown1
  go_wp2_with fail
  go_ret
  exact ⟨g, cap', rfl, hc, hg, hp, hb1⟩

theorem copy_any {w : World} {D B n cap : Nat} {f : Slots} (d : Dev w D B n cap f) :
    Calls Try.prog 17 #[.pointer (some ⟨D, 0, none⟩)] w fun e w' => ∃ D' g cap', e = .returned (.pointer (some ⟨D', 0, none⟩)) ∧ w.heap.size ≤ D' ∧ w.heap.size ≤ g ∧ Dev w' D' g n cap' f ∧ Below w.heap.size w w' := by
  have d0 := d.d0
  have d1 := d.d1
  go_enter Try.func17, Try.ntmps17
  go_wp2_with fail
  refine (clone_any d).mono ?_
  rintro e w1 ⟨g, cap', rfl, hc, hg, hp, hb⟩
  have hD : Dev (w1.alloc (.cells #[.slice (some ⟨g, 0, none⟩) n cap', .bool true] 47)) w1.heap.size g n cap' f :=
    { d0 := by go_simp
      d1 := by go_simp
      ne := by have := hp.lt; omega
      ltB := by have := hp.lt; simp; omega
      le := d.le
      lec := hc
      page := fun i hi j u hu => by rw [World.cell?_alloc_past _ _ _ hp.lt]; exact hp.page i hi j u hu
      there := fun i hi j hj => by rw [World.cell?_alloc_past _ _ _ hp.lt, World.frozen?_alloc_past _ _ _ hp.lt]; exact hp.there i hi j hj
      len := d.len }
  clear d d0 d1
  go_wp2_with fail
  go_ret
  exact ⟨_, g, cap', rfl, hb.size, hg, hD, hb.alloc hb.size _⟩

theorem Dev.of_blocks {w w' : World} {D B n cap : Nat} {f : Slots} (d : Dev w D B n cap f) (hD : w'.heap[D]? = w.heap[D]?) (hB : w'.heap[B]? = w.heap[B]?) (hs : w.heap.size ≤ w'.heap.size) : Dev w' D B n cap f where
  d0 := (World.cell?_of_block (w := w) hD).trans d.d0
  d1 := (World.cell?_of_block (w := w) hD).trans d.d1
  ne := d.ne
  ltB := Nat.lt_of_lt_of_le d.ltB hs
  le := d.le
  lec := d.lec
  page := fun i hi j u hu => (World.cell?_of_block (w := w) hB).trans (d.page i hi j u hu)
  there := fun i hi j hj => ⟨by rw [World.cell?_of_block (w := w) hB]; exact (d.there i hi j hj).1, by rw [World.frozen?_of_block (w := w) hB]; exact (d.there i hi j hj).2⟩
  len := d.len
theorem Dev.only {w w' : World} {D B n cap B2 : Nat} {f : Slots} (d : Dev w D B n cap f) (o : Only w w' B2) (h1 : D ≠ B2) (h2 : B ≠ B2) : Dev w' D B n cap f :=
  d.of_blocks (o.block D d.ltD (fun e => h1 (by cases e; rfl))) (o.block B d.ltB (fun e => h2 (by cases e; rfl))) o.size
theorem St.only {w0 w w' : World} {D B n cap B2 : Nat} {f : Slots} (s : St w0 w D B n cap f) (o : Only w w' B2) (h0 : w0.heap.size ≤ B2) (h1 : D ≠ B2) (h2 : B ≠ B2) : St w0 w' D B n cap f :=
  ⟨s.dev.only o h1 h2, below_only s.below o h0, s.own, s.ownD⟩
theorem copy_st {w0 w : World} {D B n cap : Nat} {f : Slots} (s : St w0 w D B n cap f) :
    Calls Try.prog 17 #[.pointer (some ⟨D, 0, none⟩)] w fun e w' => ∃ D' B' cap', e = .returned (.pointer (some ⟨D', 0, none⟩)) ∧ w.heap.size ≤ D' ∧ w.heap.size ≤ B' ∧ St w0 w' D' B' n cap' f ∧ St w0 w' D B n cap f ∧ Below w.heap.size w w' := by
  refine (copy_any s.dev).mono ?_
  rintro e w' ⟨D', B', cap', rfl, h1, h2, d, hb⟩
  have h := s.below.size
  exact ⟨D', B', cap', rfl, h1, h2, ⟨d, below_then s.below hb, by omega, by omega⟩, s.belowW hb, hb⟩
end Go.Proofs.Ytlgbdpdghgmmoaa
