/-
  The walk of Held: the locks that somebody holds, rising, in memory of its own.
-/
import Derived.Test.YteafbkgaihjieaaOps
namespace Go.Proofs.Yteafbkgaihjieaa
open Go.RowKit

theorem heldF_succ (h : Hold) (who : Int) (k : Nat) : heldF h who (k + 1) = heldF h who k ++ if 0 ≤ who ∧ h k = who then [(k : Int)] else [] := by
  unfold heldF
  rw [List.range_succ, List.filter_append, List.map_append]
  congr 1
  by_cases h1 : 0 ≤ who <;> by_cases h2 : h k = who <;> simp [h1, h2]
theorem heldF_len (h : Hold) (who : Int) (k : Nat) : (heldF h who k).length ≤ k := by
  unfold heldF
  rw [List.length_map]
  exact Nat.le_trans (List.length_filter_le _ _) (by simp)

/-- A slice of numbers that the call owns. -/
def Owned (w w' : World) (l : List Int) (e : Ending) : Prop := ∃ v, e = .returned v ∧ w'.ownsRow w.heap.size 3 1 v l.length (l.map (Value.int .i64)) ∧ Below w.heap.size w w'

theorem info3 : (Try.prog.info? 3).map (fun i => (i.zero, i.size, i.bytes)) = some (some (.int .i64 0), 1, 8) := by kernel_rfl

set_option maxHeartbeats 400000 in
theorem held_any (b n : Nat) (h : Hold) (who : Int) (w : World) (t : Tab w b n h) :
    Calls Try.prog 17 #[.pointer (some ⟨b, 0, none⟩), .int .i64 who] w fun e w' => Owned w w' (heldF h who n) e := by
  obtain ⟨i0, hi, hz0, hz1, hz2⟩ := info_parts info3
  have hn := t.le
  go_enter Try.func17, Try.ntmps17
  go_wp2_with fail
  refine (locks_any b n h w t).mono ?_
  rintro e w' ⟨rfl, rfl⟩
  go_wp2_with fail
  go_loopw [5, 9] (fun v i wr => ∃ k : Nat, k ≤ n ∧ i = .int .i64 k ∧ wr.ownsRow w.heap.size 3 1 v (heldF h who k).length ((heldF h who k).map (Value.int .i64)) ∧ Below w.heap.size w wr) (fun _ i _ => n - (intOf i).toNat)
  case atStart => exact ⟨0, Nat.zero_le _, rfl, World.ownsRow_nil _ _ _ _, Below.refl _ _⟩
  case round =>
    obtain ⟨k, hk, rfl, hown, hb⟩ := hrel
    have hlen := heldF_len h who k
    have hsz := hb.size
    by_cases hlt : k < n
    · by_cases h0 : 0 ≤ who
      · have tk := t.below hb
        by_cases hq : h k = who
        · have e1 : heldF h who (k + 1) = heldF h who k ++ [(k : Int)] := by rw [heldF_succ, if_pos ⟨h0, hq⟩]
          have E1 := Lib.hid e1; clear e1
          have q : (h k == who) = true := by rw [hq]; exact beq_self_eq_true _
          clear hq
          go_wp2_with fail
          refine (holder_any b n h k wr tk).mono ?_
          rintro e w' ⟨rfl, rfl⟩
          rw [holder_in hlt]
          generalize heldF h who k = l at *
          go_wp2_with (at_builtin; refine wpList_append_own _ rfl (.tmp 21) (.tmp 23) 38 rfl w.heap.size 3 i0 (.int .i64 0) 1 8 Try.underlying38 hi hz0 hz1 hz2 rfl (by decide) _ _ _ rfl (hown.alloc _) ⟨wr.heap.size, 0, none⟩ 1 1 [.int .i64 (k : Int)] rfl rfl (cell_one_new _ _ _) (ints_oneCell .i64 [(k : Int)]) (by unfold maxLen; omega) (by omega) (by simp; omega) ?_)
          intro v' w1 hown' hgrow _
          have hb1 : Below w.heap.size w w1 := (hb.alloc hsz _).grown hgrow (by simp; omega) (fun j hj => (hown.lt j hj).1)
          clear hgrow hown
          go_wp2_with fail
          go_roundw
          case rel => exact ⟨k + 1, by omega, by go_num, by rw [E1.out, List.length_append, List.map_append]; exact hown', hb1⟩
          case measure => simp [intOf]; omega
        · have e1 : heldF h who (k + 1) = heldF h who k := by rw [heldF_succ, if_neg (fun hh => hq hh.2), List.append_nil]
          have E1 := Lib.hid e1; clear e1
          have q : (h k == who) = false := beq_eq_false_iff_ne.2 hq
          clear hq
          go_wp2_with fail
          refine (holder_any b n h k wr tk).mono ?_
          rintro e w' ⟨rfl, rfl⟩
          rw [holder_in hlt]
          go_wp2_with fail
          go_roundw
          case rel => exact ⟨k + 1, by omega, by go_num, by rw [E1.out]; exact hown, hb⟩
          case measure => simp [intOf]; omega
      · have e1 : heldF h who (k + 1) = heldF h who k := by rw [heldF_succ, if_neg (fun hh => h0 hh.1), List.append_nil]
        have E1 := Lib.hid e1; clear e1
        go_wp2_with fail
        go_roundw
        case rel => exact ⟨k + 1, by omega, by go_num, by rw [E1.out]; exact hown, hb⟩
        case measure => simp [intOf]; omega
    · obtain rfl : k = n := by omega
      go_wp2_with fail
      go_ret
      exact ⟨_, rfl, hown, hb⟩
end Go.Proofs.Yteafbkgaihjieaa
