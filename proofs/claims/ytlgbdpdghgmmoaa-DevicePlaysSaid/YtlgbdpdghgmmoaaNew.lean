/-
  The walks of New and Copy.
-/
import Derived.Test.YtlgbdpdghgmmoaaDev
namespace Go.Proofs.Ytlgbdpdghgmmoaa
open Go.RowKit

def clampN (n : Int) : Nat := if n < 0 then 0 else if 1024 < n then 1024 else n.toNat
theorem clampN_le (n : Int) : clampN n ≤ 1024 := by unfold clampN; split <;> (try split) <;> omega

def zeroPage : List Int := List.replicate 256 0
def newCells (n : Nat) : Array Value := madeCells zero55 (n * 256)
theorem newCells_at {n j : Nat} (hj : j < n * 256) : (newCells n)[j]? = some (.int .u8 0) := by
  unfold newCells madeCells
  have h1 : j % zero55.size < 256 := by rw [size_zero55]; exact Nat.mod_lt _ (by omega)
  rw [Array.getElem?_map, Array.getElem?_range, if_pos hj]
  simp only [Option.map_some]
  have : zero55[j % zero55.size]! = .int .u8 0 := by
    rw [getElem!_pos zero55 (j % zero55.size) (by rw [size_zero55] at h1 ⊢; exact h1)]
    unfold zero55; exact Array.getElem_replicate _
  rw [this]
theorem info55' : (Try.prog.info? 55).map (fun i => (i.zero, i.size, i.bytes)) = some (some (.agg zero55), 256, 256) := by kernel_rfl
theorem run_mk (n : Nat) (hn : n ≤ 1024) (W : World) : (Instr.makeSlice 45 (.int .i64 (n : Int)) (.int .i64 (n : Int))).run Try.prog W = .ok (.slice (some ⟨W.heap.size, 0, none⟩) n n) (W.alloc (.cells (newCells n) 55)) := by
  obtain ⟨i, hi, hz, hs, hb⟩ := info_parts info55'
  have := run_make (P := Try.prog) W 45 55 i _ Try.underlying45 hi hz .i64 .i64 n n (by omega) (by omega) (by rw [hb]; omega) (by omega)
  rw [this, hs]
  simp only [Int.toNat_natCast]
  rfl

theorem dev_new (w : World) (n : Nat) (hn : n ≤ 1024) :
    Dev ((w.alloc (.cells (newCells n) 55)).alloc (.cells #[.slice (some ⟨w.heap.size, 0, none⟩) n n, .bool true] 47)) (w.heap.size + 1) w.heap.size n n (fun _ => zeroPage) where
  d0 := by go_simp
  d1 := by go_simp
  ne := by omega
  ltB := by simp; omega
  le := hn
  lec := Nat.le_refl _
  page := fun i hi j v hv => by
    unfold zeroPage at hv
    rw [List.map_replicate, List.getElem?_replicate] at hv
    split at hv
    · rw [World.cell?_alloc_past _ _ _ (by simp), World.cell?_alloc_new, newCells_at (by omega), ← hv]
    · cases hv
  there := fun i hi j hj => by
    refine ⟨?_, ?_⟩
    · rw [World.cell?_alloc_past _ _ _ (by simp), World.cell?_alloc_new, newCells_at (by omega)]; rfl
    · rw [World.frozen?_alloc_past _ _ _ (by simp), World.frozen?_alloc_new]
  len := fun i hi => List.length_replicate

theorem new_any (n : Int) (w : World) :
    Calls Try.prog 9 #[.int .i64 n] w fun e w' => e = .returned (.pointer (some ⟨w.heap.size + 1, 0, none⟩)) ∧ Dev w' (w.heap.size + 1) w.heap.size (clampN n) (clampN n) (fun _ => zeroPage) ∧ Below w.heap.size w w' := by
  have fin : ∀ m : Nat, m ≤ 1024 → Below w.heap.size w ((w.alloc (.cells (newCells m) 55)).alloc (.cells #[.slice (some ⟨w.heap.size, 0, none⟩) m m, .bool true] 47)) := fun m _ => ((Below.refl _ _).alloc (Nat.le_refl _) _).alloc (by simp) _
  by_cases h0 : n < 0
  · have e0 : clampN n = 0 := by unfold clampN; rw [if_pos h0]
    rw [e0]; clear e0
    have hmk : ∀ W : World, (Instr.makeSlice 45 (.int .i64 0) (.int .i64 0)).run Try.prog W = .ok (.slice (some ⟨W.heap.size, 0, none⟩) 0 0) (W.alloc (.cells (newCells 0) 55)) := run_mk 0 (by omega)
    go_enter Try.func9, Try.ntmps9
    go_wp2
    go_ret
    exact ⟨rfl, dev_new w 0 (by omega), fin 0 (by omega)⟩
  · by_cases h1 : 1024 < n
    · have e0 : clampN n = 1024 := by unfold clampN; rw [if_neg h0, if_pos h1]
      rw [e0]; clear e0
      have hmk : ∀ W : World, (Instr.makeSlice 45 (.int .i64 1024) (.int .i64 1024)).run Try.prog W = .ok (.slice (some ⟨W.heap.size, 0, none⟩) 1024 1024) (W.alloc (.cells (newCells 1024) 55)) := run_mk 1024 (by omega)
      go_enter Try.func9, Try.ntmps9
      go_wp2
      go_ret
      exact ⟨rfl, dev_new w 1024 (by omega), fin 1024 (by omega)⟩
    · obtain ⟨k, rfl⟩ := Int.eq_ofNat_of_zero_le (by omega : 0 ≤ n)
      have e0 : clampN k = k := by unfold clampN; rw [if_neg h0, if_neg h1]; simp
      rw [e0]; clear e0
      have hmk := run_mk k (by omega)
      go_enter Try.func9, Try.ntmps9
      go_wp2
      go_ret
      exact ⟨rfl, dev_new w k (by omega), fin k (by omega)⟩
end Go.Proofs.Ytlgbdpdghgmmoaa
