/-
  The walk of Copy: a new table, held as the old one.
-/
import Derived.Test.YteafbkgaihjieaaNew
import Derived.Deep.WholeRow
namespace Go.Proofs.Yteafbkgaihjieaa
open Go.RowKit

theorem info50 : (Try.prog.info? 50).map (·.size) = some 66 := by kernel_rfl

theorem tab_copy {w : World} {b n : Nat} {h : Hold} (t : Tab w b n h) : ∃ cs : Array Value, w.heap[b]? = some (.cells cs 50 (0, 0)) ∧ cs.size = 66 ∧ cs.all (·.oneCell') = true ∧
    ∀ w' : World, Tab (w'.alloc (.cells cs 50)) w'.heap.size n h := by
  obtain ⟨cs, hb, hn, hc⟩ := t.row
  refine ⟨cs, hb, hn, ?_, fun w' => ⟨⟨cs, Deep.blk_alloc_new _ _, hn, hc⟩, t.le, t.ok⟩⟩
  rw [Array.all_eq_true]
  intro i hi
  have := hc i (by omega)
  rw [Array.getElem?_eq_getElem hi] at this
  rw [Option.some.inj this]
  unfold tabF; split
  · rfl
  · split <;> rfl

set_option maxHeartbeats 400000 in
theorem copy_any (b n : Nat) (h : Hold) (w : World) (t : Tab w b n h) :
    Calls Try.prog 15 #[.pointer (some ⟨b, 0, none⟩)] w fun e w' => e = .returned (.pointer (some ⟨w.heap.size, 0, none⟩)) ∧ Tab w' w.heap.size n h ∧ Below w.heap.size w w' := by
  have cm := t.cm
  obtain ⟨cs, hg, hs, h1, hnew⟩ := tab_copy t
  have hi : (Try.prog.info? 50).map (·.size) = some cs.size := by rw [hs]; exact info50
  have hz := run_zero50
  have hsz := size_zero50
  have H1 := Lib.hid h1; clear h1
  have Hg := Lib.hid hg; clear hg
  have Hi := Lib.hid hi; clear hi
  have Hs := Lib.hid hs; clear hs
  have Hn := Lib.hid hnew; clear hnew t
  go_enter Try.func15, Try.ntmps15
  go_wp2_with (first
    | (refine wpList_load_row rfl 50 (.tmp 14) rfl b rfl 50 cs (0, 0) _ Hg.out Try.underlying50 rfl Hi.out ?_)
    | (refine wpList_store_row rfl 50 (.tmp 3) (.tmp 15) rfl w.heap.size cs rfl rfl 50 zero50 (Deep.blk_alloc_new _ _) Hi.out (hsz.trans Hs.out.symm) H1.out ?_))
  go_ret
  rw [World.setRow_alloc_new]
  exact ⟨rfl, Hn.out _, (Below.refl _ _).alloc (Nat.le_refl _) _⟩
end Go.Proofs.Yteafbkgaihjieaa
