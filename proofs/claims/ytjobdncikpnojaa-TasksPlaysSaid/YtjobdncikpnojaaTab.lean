/-
  The table of tasks in memory, and the walks of its methods.
-/
import Derived.Test.YtjobdncikpnojaaRows
import Derived.WalkKit
import Derived.WalkSpells
import Derived.WalkLawsBesides
import Derived.Lib.Hide
import Derived.Deep.OwnRows
import Derived.BigQuiet
import Derived.Handy
import Derived.Laws.EntriesVeiled
namespace Go.Proofs.Ytjobdncikpnojaa
open Go.RowKit

/-- A slot: what is next, how many steps were done. -/
def slotF (nx : Nat → Value) (dn : Nat → Int) (i : Nat) : Value := if i % 2 = 0 then nx (i / 2) else .int .i64 (dn (i / 2))
/-- A table of n slots: T: its struct; B: its slots. -/
structure TT (w : World) (T B n : Nat) (nx : Nat → Value) (dn : Nat → Int) : Prop where
  t0 : w.cell? ⟨T, 0, none⟩ = some (.slice (some ⟨B, 0, none⟩) n n)
  ne : T ≠ B
  row : w.rowIs B 68 (n * 2) (slotF nx dn)
  le : n ≤ 16
theorem TT.lt {w : World} {T B n : Nat} {nx : Nat → Value} {dn : Nat → Int} (t : TT w T B n nx dn) : T < w.heap.size := World.block_lt_of_cell? w _ t.t0
theorem TT.ltB {w : World} {T B n : Nat} {nx : Nat → Value} {dn : Nat → Int} (t : TT w T B n nx dn) : B < w.heap.size := by
  obtain ⟨c, h, _⟩ := t.row
  exact (Array.getElem?_eq_some_iff.1 h).1
theorem TT.cn {w : World} {T B n : Nat} {nx : Nat → Value} {dn : Nat → Int} (t : TT w T B n nx dn) {k : Nat} (hk : k < n) : w.cell? ⟨B, k * 2, none⟩ = some (nx k) := by
  have := t.row.cell (i := k * 2) (by omega)
  rw [this]; unfold slotF; rw [if_pos (by omega)]; simp
theorem TT.cd {w : World} {T B n : Nat} {nx : Nat → Value} {dn : Nat → Int} (t : TT w T B n nx dn) {k : Nat} (hk : k < n) : w.cell? ⟨B, k * 2 + 1, none⟩ = some (.int .i64 (dn k)) := by
  have := t.row.cell (i := k * 2 + 1) (by omega)
  rw [this]; unfold slotF; rw [if_neg (by omega), show (k * 2 + 1) / 2 = k by omega]
def upV (f : Nat → Value) (k : Nat) (v : Value) : Nat → Value := fun i => if i = k then v else f i
def upI (f : Nat → Int) (k : Nat) (v : Int) : Nat → Int := fun i => if i = k then v else f i
theorem TT.setN {w : World} {T B n : Nat} {nx : Nat → Value} {dn : Nat → Int} (t : TT w T B n nx dn) (k : Nat) (v : Value) :
    TT (w.setCell ⟨B, k * 2, none⟩ v) T B n (upV nx k v) dn := by
  refine ⟨?_, t.ne, (t.row.set (k * 2) _).congr fun i hi => ?_, t.le⟩
  · rw [World.cell?_setCell_other (h := fun e => t.ne (congrArg Addr.block e).symm)]; exact t.t0
  · unfold slotF upV
    by_cases e : i = k * 2
    · subst e; rw [if_pos rfl, if_pos (by omega), if_pos (by omega)]
    · rw [if_neg e]; split
      · rw [if_neg (by omega)]
      · rfl
theorem TT.setD {w : World} {T B n : Nat} {nx : Nat → Value} {dn : Nat → Int} (t : TT w T B n nx dn) (k : Nat) (v : Int) :
    TT (w.setCell ⟨B, k * 2 + 1, none⟩ (.int .i64 v)) T B n nx (upI dn k v) := by
  refine ⟨?_, t.ne, (t.row.set (k * 2 + 1) _).congr fun i hi => ?_, t.le⟩
  · rw [World.cell?_setCell_other (h := fun e => t.ne (congrArg Addr.block e).symm)]; exact t.t0
  · unfold slotF upI
    by_cases e : i = k * 2 + 1
    · subst e; rw [if_pos rfl, if_neg (by omega), if_pos (by omega)]
    · rw [if_neg e]; split
      · rfl
      · rw [if_neg (by omega)]

/-- The world has new blocks, and block b may have turned. -/
abbrev Only (w w' : World) (b : Nat) : Prop := w.grownBy w' (some b)
theorem only_refl (w : World) (b : Nat) : Only w w b := ⟨rfl, rfl, rfl, Nat.le_refl _, fun _ _ _ => rfl⟩
theorem only_set {w w' : World} {b : Nat} (h : Only w w' b) (o : Nat) (v : Value) : Only w (w'.setCell ⟨b, o, none⟩ v) b :=
  ⟨h.os, h.tape, h.output, by simpa [World.setCell] using h.size, fun i hi hne => (Below.heap_setCell w' _ v i (by rintro rfl; exact hne rfl)).trans (h.block i hi hne)⟩

def clampN (n : Int) : Nat := if n < 0 then 0 else if 16 < n then 16 else n.toNat
theorem clampN_le (n : Int) : clampN n ≤ 16 := by unfold clampN; split <;> (try split) <;> omega

def newCells (n : Nat) : Array Value := madeCells #[.nilFunc, .int .i64 0] (n * 2)
theorem info68 : (Try.prog.info? 68).map (fun i => (i.zero, i.size, i.bytes)) = some (some (.agg #[.nilFunc, .int .i64 0]), 2, 16) := by kernel_rfl
theorem newCells_at {n j : Nat} (hj : j < n * 2) : (newCells n)[j]? = some (slotF (fun _ => .nilFunc) (fun _ => 0) j) := by
  unfold newCells madeCells slotF
  rw [Array.getElem?_map, Array.getElem?_range, if_pos hj]
  simp only [Option.map_some]
  rcases Nat.mod_two_eq_zero_or_one j with h | h
  · rw [if_pos h]; simp [h]
  · rw [if_neg (by omega)]; simp [h]
theorem run_mk (n : Nat) (hn : n ≤ 16) (W : World) : (Instr.makeSlice 22 (.int .i64 (n : Int)) (.int .i64 (n : Int))).run Try.prog W = .ok (.slice (some ⟨W.heap.size, 0, none⟩) n n) (W.alloc (.cells (newCells n) 68)) := by
  obtain ⟨i, hi, hz, hs, hb⟩ := info_parts info68
  have := run_make (P := Try.prog) W 22 68 i _ Try.underlying22 hi hz .i64 .i64 n n (by omega) (by omega) (by rw [hb]; omega) (by omega)
  rw [this, hs]
  simp only [Int.toNat_natCast]
  rfl
/-- The world behind a New. -/
def newW (w : World) (m : Nat) : World := (w.alloc (.cells (newCells m) 68)).alloc (.cells #[.slice (some ⟨w.heap.size, 0, none⟩) m m] 24)
theorem tt_new (w : World) (n : Nat) (hn : n ≤ 16) : TT (newW w n) (w.heap.size + 1) w.heap.size n (fun _ => .nilFunc) (fun _ => 0) where
  t0 := by unfold newW; go_simp
  ne := by omega
  row := by
    have h := World.rowIs_alloc w (newCells n) 68 (slotF (fun _ => .nilFunc) (fun _ => 0)) (fun i hi => newCells_at (by unfold newCells at hi; rwa [size_madeCells] at hi))
    have hs : (newCells n).size = n * 2 := by unfold newCells; rw [size_madeCells]
    rw [hs] at h
    exact h.alloc _
  le := hn
theorem below_newW (w : World) (m : Nat) : Below w.heap.size w (newW w m) := ((Below.refl _ _).alloc (Nat.le_refl _) _).alloc (by simp) _

theorem new_any (n : Int) (w : World) :
    Calls Try.prog 13 #[.int .i64 n] w fun e w' => e = .returned (.pointer (some ⟨w.heap.size + 1, 0, none⟩)) ∧ w' = newW w (clampN n) := by
  by_cases h0 : n < 0
  · have e0 : clampN n = 0 := by unfold clampN; rw [if_pos h0]
    rw [e0]; clear e0
    have hmk : ∀ W : World, (Instr.makeSlice 22 (.int .i64 0) (.int .i64 0)).run Try.prog W = .ok (.slice (some ⟨W.heap.size, 0, none⟩) 0 0) (W.alloc (.cells (newCells 0) 68)) := run_mk 0 (by omega)
    go_enter Try.func13, Try.ntmps13
    go_wp2
    go_ret
    exact ⟨rfl, rfl⟩
  · by_cases h1 : 16 < n
    · have e0 : clampN n = 16 := by unfold clampN; rw [if_neg h0, if_pos h1]
      rw [e0]; clear e0
      have hmk : ∀ W : World, (Instr.makeSlice 22 (.int .i64 16) (.int .i64 16)).run Try.prog W = .ok (.slice (some ⟨W.heap.size, 0, none⟩) 16 16) (W.alloc (.cells (newCells 16) 68)) := run_mk 16 (by omega)
      go_enter Try.func13, Try.ntmps13
      go_wp2
      go_ret
      exact ⟨rfl, rfl⟩
    · obtain ⟨k, rfl⟩ := Int.eq_ofNat_of_zero_le (by omega : 0 ≤ n)
      have e0 : clampN k = k := by unfold clampN; rw [if_neg h0, if_neg h1]; simp
      rw [e0]; clear e0
      have hmk := run_mk k (by omega)
      go_enter Try.func13, Try.ntmps13
      go_wp2
      go_ret
      exact ⟨rfl, rfl⟩

variable {w : World} {T B n : Nat} {nx : Nat → Value} {dn : Nat → Int}
theorem cpus_any (t : TT w T B n nx dn) :
    Calls Try.prog 12 #[.pointer (some ⟨T, 0, none⟩)] w fun e w' => e = .returned (.int .i64 (n : Int)) ∧ w = w' := by
  have t0 := t.t0
  have hn := t.le
  clear t
  go_enter Try.func12, Try.ntmps12
  go_wp2
  go_ret
  exact ⟨rfl, rfl⟩
theorem ready_any (t : TT w T B n nx dn) :
    Calls Try.prog 22 #[.pointer (some ⟨T, 0, none⟩)] w fun e w' => e = .returned (.bool true) ∧ w = w' := by
  have t0 := t.t0
  clear t
  go_enter Try.func22, Try.ntmps22
  go_wp2
  go_ret
  exact ⟨rfl, rfl⟩
theorem at_ok (t : TT w T B n nx dn) (k : Nat) (hk : k < n) :
    Calls Try.prog 21 #[.pointer (some ⟨T, 0, none⟩), .int .i64 (k : Int)] w fun e w' => e = .returned (.pointer (some ⟨B, k * 2, none⟩)) ∧ w = w' := by
  have t0 := t.t0
  have hn := t.le
  go_enter Try.func21, Try.ntmps21
  go_wp2_with (go_at_call 12; refine (cpus_any t).mono ?_; rintro e w' ⟨rfl, rfl⟩)
  go_ret
  exact ⟨rfl, rfl⟩
def badI (n : Nat) (i : Int) : Bool := decide (i < 0) || decide ((n : Int) ≤ i)
theorem badI_false {n : Nat} {i : Int} (h : badI n i = false) : 0 ≤ i ∧ i < n := by unfold badI at h; simp at h; omega
theorem badI_true {n : Nat} {i : Int} (h : badI n i = true) : i < 0 ∨ (0 ≤ i ∧ (n : Int) ≤ i) := by unfold badI at h; simp at h; omega
theorem at_bad (t : TT w T B n nx dn) (i : Int) (hb : badI n i = true) :
    Calls Try.prog 21 #[.pointer (some ⟨T, 0, none⟩), .int .i64 i] w fun e w' => e = .returned (.pointer none) ∧ w = w' := by
  have t0 := t.t0
  have hn := t.le
  rcases badI_true hb with h | ⟨h1, h2⟩
  all_goals
    go_enter Try.func21, Try.ntmps21
    go_wp2_with (go_at_call 12; refine (cpus_any t).mono ?_; rintro e w' ⟨rfl, rfl⟩)
    go_ret
    exact ⟨rfl, rfl⟩
end Go.Proofs.Ytjobdncikpnojaa
