/-
  The walks of New, Copy, Held: each does what the plain table does.
-/
import Derived.Test.YteafbkgaihjieaaTab
namespace Go.Proofs.Yteafbkgaihjieaa
open Go.RowKit

def clampN (n : Int) : Nat := if n < 0 then 0 else if 64 < n then 64 else n.toNat
theorem clampN_le (n : Int) : clampN n ≤ 64 := by unfold clampN; split <;> (try split) <;> omega

/-- A table's zero value. -/
def zero50 : Array Value := Array.ofFn (n := 66) fun i => if i.val = 65 then .bool false else .int .i64 0
theorem run_zero50 (w : World) : (zeroValue 50).run Try.prog w = .ok (.agg zero50) w := by kernel_rfl
theorem size_zero50 : zero50.size = 66 := by unfold zero50; exact Array.size_ofFn
theorem zero50_ne : (zero50 = #[]) = False := by
  apply eq_false; intro h; have := size_zero50; rw [h] at this; simp at this
/-- The cells of a new table. -/
def newCells (n : Nat) : Array Value := (zero50.setIfInBounds 0 (.int .i64 n)).setIfInBounds 65 (.bool true)
theorem tab_new (w : World) (n : Nat) (hn : n ≤ 64) : Tab (w.alloc (.cells (newCells n) 50)) w.heap.size n free := by
  refine ⟨?_, hn, okH_free⟩
  have hs : (newCells n).size = 66 := by unfold newCells; rw [Array.size_setIfInBounds, Array.size_setIfInBounds, size_zero50]
  have h := World.rowIs_alloc w (newCells n) 50 (tabF n free) (fun i hi => by
    rw [hs] at hi
    unfold newCells tabF
    rw [Array.getElem?_setIfInBounds, Array.getElem?_setIfInBounds, Array.size_setIfInBounds, size_zero50]
    by_cases h65 : 65 = i
    · subst h65; simp
    · rw [if_neg h65]
      by_cases h0 : 0 = i
      · subst h0; simp
      · rw [if_neg h0, if_neg (by omega), if_neg (by omega)]
        unfold zero50
        rw [Array.getElem?_ofFn, dif_pos hi]
        simp only []
        rw [if_neg (by omega)]
        simp [free, enc])
  rwa [hs] at h

theorem new_any (n : Int) (w : World) :
    Calls Try.prog 10 #[.int .i64 n] w fun e w' => e = .returned (.pointer (some ⟨w.heap.size, 0, none⟩)) ∧ w' = w.alloc (.cells (newCells (clampN n)) 50) := by
  have hb := run_zero50
  have hs := size_zero50
  have hz := zero50_ne
  by_cases h0 : n < 0
  · have e0 : clampN n = 0 := by unfold clampN; rw [if_pos h0]
    rw [e0]; clear e0
    go_enter Try.func10, Try.ntmps10
    go_wp2
    go_ret
    exact ⟨rfl, rfl⟩
  · by_cases h1 : 64 < n
    · have e0 : clampN n = 64 := by unfold clampN; rw [if_neg h0, if_pos h1]
      rw [e0]; clear e0
      go_enter Try.func10, Try.ntmps10
      go_wp2
      go_ret
      exact ⟨rfl, rfl⟩
    · obtain ⟨k, rfl⟩ := Int.eq_ofNat_of_zero_le (by omega : 0 ≤ n)
      have e0 : clampN k = k := by unfold clampN; rw [if_neg h0, if_neg h1]; simp
      rw [e0]; clear e0
      go_enter Try.func10, Try.ntmps10
      go_wp2
      go_ret
      exact ⟨rfl, rfl⟩
end Go.Proofs.Yteafbkgaihjieaa
