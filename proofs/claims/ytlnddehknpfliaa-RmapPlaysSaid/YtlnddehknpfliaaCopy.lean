/-
  The walks of Copy and of what it calls: slices.Clone, maps.Clone.
-/
import Derived.Test.YtlnddehknpfliaaKnown
import Derived.Shelf.SlMaps.Clone
namespace Go.Proofs.Ytlnddehknpfliaa
open Go.RowKit

section
variable {w w' : World} {base D F b n c : Nat} {f : Fr}
theorem ne_nilS (b n c : Nat) (W : World) : (binOp .eql 51 (.slice (some ⟨b, 0, none⟩) n c) (.slice none 0 0)).run Try.prog W = .ok (.bool false) W := by kernel_rfl
set_option maxHeartbeats 1000000 in
theorem clone_any (s : TT w base D F b n c f) : Calls Try.prog 24 #[.slice (some ⟨F, 0, none⟩) n c] w fun e w' =>
    ∃ F' c', e = .returned (.slice (some ⟨F', 0, none⟩) n c') ∧ OwnAt w' w.heap.size 57 2 (some ⟨F', 0, none⟩) n c' F' (cellsP n f) ∧ Below w.heap.size w w' := by
  have hn := s.le
  have hc := s.lec
  obtain ⟨i0, hi, hz0, hz1, hz2⟩ := info_parts info57
  have hnil := ne_nilS F n c
  have hE : (w.alloc (.cells #[] 57)).ownsRow w.heap.size 57 2 (.slice (some ⟨w.heap.size, 0, none⟩) 0 0) 0 [] := own_empty w 57 2 (Nat.le_refl _)
  have hR : Rd (w.alloc (.cells #[] 57)) 2 (some ⟨F, 0, none⟩) n (cellsP n f) := s.own.rd.below (below_new _ _)
  have fin : ∀ (v : Value) (w1 : World), w1.ownsRow w.heap.size 57 2 v n (cellsP n f) → (w.alloc (.cells #[] 57)).grownBy w1 (some w.heap.size) → (¬ v = .slice none 0 0) →
      ∃ B' c', Ending.returned v = .returned (.slice (some ⟨B', 0, none⟩) n c') ∧ OwnAt w1 w.heap.size 57 2 (some ⟨B', 0, none⟩) n c' B' (cellsP n f) ∧ Below w.heap.size w w1 := by
    intro v w1 ho hg hv
    obtain ⟨a', c', g', rfl, oa⟩ := own_at ho
    cases a' with
    | none =>
      have h0 : n = 0 ∧ c' = 0 := by
        rcases ho.2 with ⟨h1, h2⟩ | ⟨_, _, _, h1, _⟩
        · cases h1; exact ⟨h2, rfl⟩
        · cases h1
      obtain ⟨rfl, rfl⟩ := h0
      exact absurd rfl hv
    | some ad =>
      obtain ⟨rfl, _⟩ := oa.blk ad rfl
      exact ⟨g', c', rfl, oa, (below_new w _).grown hg (by simp) (fun k hk => by cases hk; exact Nat.le_refl _)⟩
  have FIN := Lib.hid fin; clear fin
  have HE := Lib.hid hE; clear hE
  have HR := Lib.hid hR; clear hR
  go_enter Try.func24, Try.ntmps24
  go_wp2_with (at_builtin; refine wpList_append_rd _ rfl (.tmp 5) (.tmp 6) 51 rfl w.heap.size 57 i0 _ 2 16 Try.underlying51 hi hz0 hz1 hz2 rfl (by omega) (.slice (some ⟨w.heap.size, 0, none⟩) 0 0) 0 [] rfl HE.out (some ⟨F, 0, none⟩) n c (cellsP n f) rfl HR.out (cellsP_one n f) (by unfold maxLen; omega) (by omega) (by simp) ?_)
  intro v1 w1 hown hgrow hat hv
  have F := Lib.hid (FIN.out v1 w1 hown hgrow hv)
  clear hown hgrow hat hv hnil
  go_wp2
  go_ret
  exact F.out

set_option maxHeartbeats 1000000 in
theorem mclone_any {M : Pg → Option Value} (h : MapAt encP kdP w b M) : Calls Try.prog 25 #[.map (some b)] w fun e w' =>
    ∃ b', e = .returned (.map (some b')) ∧ MapAt encP kdP w' b' M ∧ w.heap.size ≤ b' ∧ Below w.heap.size w w' := by
  obtain ⟨es, clock, hb, hr⟩ := h
  have hq := map_neq b
  go_enter Try.func25, Try.ntmps25
  go_wp2
  rw [run_callFunc_extern Try.func26 (by kernel_rfl) (by kernel_rfl) (by kernel_rfl) (e := Extern.MapsClone.clone) (by kernel_rfl), run_maps_clone_sl w 52 hb]
  simp only [Result.andThen]
  rw [Oper.upon_value]
  go_wp2
  rw [run_typeAssert_map_sl _ 52 20 _ _ _ Try.underlying52]
  simp only [Result.andThen]
  rw [Oper.upon_value]
  go_wp2
  go_ret
  exact ⟨_, rfl, ⟨es, clock, (MapKept.heap_alloc w _).1, hr⟩, Nat.le_refl _, below_new _ _⟩

set_option maxHeartbeats 1000000 in
theorem copy_any (s : TT w base D F b n c f) : Calls Try.prog 18 #[.pointer (some ⟨D, 0, none⟩)] w fun e w' =>
    ∃ D' F' b' c', e = .returned (.pointer (some ⟨D', 0, none⟩)) ∧ w.heap.size ≤ D' ∧ TT w' w.heap.size D' F' b' n c' f ∧ Below w.heap.size w w' := by
  have s0 := s.s0
  have s1 := s.s1
  have hq := map_neq b
  have sd := s.below (Below.refl w.heap.size w).drew
  go_enter Try.func18, Try.ntmps18
  go_wp2_with fail
  go_region_held3 (fun w' => w'.cell? ⟨D, 0, none⟩ = some (.slice (some ⟨F, 0, none⟩) n c) ∧ w'.cell? ⟨D, 1, none⟩ = some (.map (some b)))
    (first | exact ⟨t1.s0, t1.s1⟩ | exact ⟨t2.s0, t2.s1⟩ | go_keep)
    (first
      | (go_at_call 24; refine (clone_any sd).mono ?_; rintro e w1 ⟨F', c', rfl, o1, b1⟩; have t1 := sd.below b1)
      | (go_at_call 25; refine (mclone_any t1.map).mono ?_; rintro e w2 ⟨b', rfl, m2, hb', b2⟩; have t2 := t1.below b2))
  go_wp2_with fail
  go_ret
  have h := World.rowIs_alloc w2 #[.slice (some ⟨F', 0, none⟩) n c', .map (some b')] 54 (topF n c' F' b') (fun i hi => by
      rcases (show i = 0 ∨ i = 1 by simp at hi; omega) with rfl | rfl <;> rfl)
  have bA := below_new w2 (.cells #[.slice (some ⟨F', 0, none⟩) n c', .map (some b')] 54)
  have b12 : Below w.heap.size w w2 := below_then (below_then (Below.refl w.heap.size w).drew b1) b2
  have h1 := b1.size
  have hd : w.drew.heap.size = w.heap.size := rfl
  exact ⟨_, _, _, _, rfl, b12.size, ⟨h, (o1.below b2).below bA, m2.below bA, by omega, s.le, s.ok⟩, below_then b12 bA⟩
end
end Go.Proofs.Ytlnddehknpfliaa
