/-
  A table that is not there, or was not made, refuses.
-/
import Derived.Test.YteafbkgaihjieaaKnown
namespace Go.Proofs.Yteafbkgaihjieaa
open Go.RowKit

/-- No table: nil, or a zero one. -/
inductive NoTab (w : World) : Option Addr → Prop
  | nil : NoTab w none
  | zero (b : Nat) (c0 : w.cell? ⟨b, 0, none⟩ = some (.int .i64 0)) (cm : w.cell? ⟨b, 65, none⟩ = some (.bool false)) : NoTab w (some ⟨b, 0, none⟩)

theorem wrong_none {w : World} {p : Option Addr} (h : NoTab w p) (who lock : Int) :
    Calls Try.prog 23 #[.pointer p, .int .i64 who, .int .i64 lock] w fun e w' => e = .returned (.int .i64 1) ∧ w = w' := by
  cases h with
  | nil =>
    go_enter Try.func23, Try.ntmps23
    go_wp2
    go_ret
    exact ⟨rfl, rfl⟩
  | zero b c0 cm =>
    go_enter Try.func23, Try.ntmps23
    go_wp2
    go_ret
    exact ⟨rfl, rfl⟩

theorem try_none {w : World} {p : Option Addr} (h : NoTab w p) (who lock : Int) :
    Calls Try.prog 12 #[.pointer p, .int .i64 who, .int .i64 lock] w fun e w' => e = .returned (.tuple #[.bool false, .int .i64 1]) ∧ w = w' := by
  go_enter Try.func12, Try.ntmps12
  go_wp2_with (go_at_call 23; refine (wrong_none h who lock).mono ?_; rintro e w' ⟨rfl, rfl⟩)
  go_ret2
  exact ⟨rfl, rfl⟩
theorem free_none {w : World} {p : Option Addr} (h : NoTab w p) (who lock : Int) :
    Calls Try.prog 11 #[.pointer p, .int .i64 who, .int .i64 lock] w fun e w' => e = .returned (.int .i64 1) ∧ w = w' := by
  go_enter Try.func11, Try.ntmps11
  go_wp2_with (go_at_call 23; refine (wrong_none h who lock).mono ?_; rintro e w' ⟨rfl, rfl⟩)
  go_ret
  exact ⟨rfl, rfl⟩
theorem holder_none {w : World} {p : Option Addr} (h : NoTab w p) (lock : Int) :
    Calls Try.prog 14 #[.pointer p, .int .i64 lock] w fun e w' => e = .returned (.int .i64 (-1)) ∧ w = w' := by
  go_enter Try.func14, Try.ntmps14
  go_wp2_with (go_at_call 23; refine (wrong_none h 0 lock).mono ?_; rintro e w' ⟨rfl, rfl⟩)
  go_ret
  exact ⟨rfl, rfl⟩
theorem locks_none {w : World} {p : Option Addr} (h : NoTab w p) :
    Calls Try.prog 13 #[.pointer p] w fun e w' => e = .returned (.int .i64 0) ∧ w = w' := by
  cases h with
  | nil =>
    go_enter Try.func13, Try.ntmps13
    go_wp2
    go_ret
    exact ⟨rfl, rfl⟩
  | zero b c0 cm =>
    go_enter Try.func13, Try.ntmps13
    go_wp2
    go_ret
    exact ⟨rfl, rfl⟩
theorem copy_none {w : World} {p : Option Addr} (h : NoTab w p) :
    Calls Try.prog 15 #[.pointer p] w fun e w' => e = .returned (.pointer none) ∧ w = w' := by
  cases h with
  | nil =>
    go_enter Try.func15, Try.ntmps15
    go_wp2
    go_ret
    exact ⟨rfl, rfl⟩
  | zero b c0 cm =>
    go_enter Try.func15, Try.ntmps15
    go_wp2
    go_ret
    exact ⟨rfl, rfl⟩
theorem held_none {w : World} {p : Option Addr} (h : NoTab w p) (who : Int) :
    Calls Try.prog 17 #[.pointer p, .int .i64 who] w fun e w' => e = .returned (.slice none 0 0) ∧ w = w' := by
  go_enter Try.func17, Try.ntmps17
  go_wp2_with (go_at_call 13; refine (locks_none h).mono ?_; rintro e w' ⟨rfl, rfl⟩)
  refine wp_loop_rounds 1 ?_
  rw [rounds_succ]
  go_wp2
  go_ret
  exact ⟨rfl, rfl⟩

set_option maxHeartbeats 1000000 in
theorem none_any (who lock : Int) (w : World) :
    Calls Try.prog 8 #[.int .i64 who, .int .i64 lock] w fun e w' => e = .returned (.bool true) ∧ Below w.heap.size w w' := by
  have hz := run_zero50
  have hs := size_zero50
  have n0 : ∀ W : World, NoTab W none := fun W => .nil
  go_enter Try.func8, Try.ntmps8
  go_wp2_with fail
  have hbl : Below w.heap.size w ((w.alloc (Obj.cells zero50 50)).alloc (Obj.cells #[Value.pointer none, Value.pointer (some ⟨w.heap.size, 0, none⟩)] 24)) :=
    ((Below.refl _ _).alloc (Nat.le_refl _) _).alloc (by simp) _
  have e0 : ((w.alloc (Obj.cells zero50 50)).alloc (Obj.cells #[Value.pointer none, Value.pointer (some ⟨w.heap.size, 0, none⟩)] 24)).cell? ⟨w.heap.size + 1, 0, none⟩ = some (.pointer none) := by go_simp
  have e1 : ((w.alloc (Obj.cells zero50 50)).alloc (Obj.cells #[Value.pointer none, Value.pointer (some ⟨w.heap.size, 0, none⟩)] 24)).cell? ⟨w.heap.size + 1, 1, none⟩ = some (.pointer (some ⟨w.heap.size, 0, none⟩)) := by go_simp
  have n1 : NoTab ((w.alloc (Obj.cells zero50 50)).alloc (Obj.cells #[Value.pointer none, Value.pointer (some ⟨w.heap.size, 0, none⟩)] 24)) (some ⟨w.heap.size, 0, none⟩) := by
    refine .zero _ ?_ ?_
    · rw [World.cell?_alloc_past _ _ _ (by simp), World.cell?_alloc_new]; rfl
    · rw [World.cell?_alloc_past _ _ _ (by simp), World.cell?_alloc_new]; rfl
  clear hz hs
  generalize (w.alloc (Obj.cells zero50 50)).alloc (Obj.cells #[Value.pointer none, Value.pointer (some ⟨w.heap.size, 0, none⟩)] 24) = W at *
  refine wp_loop_rounds 3 ?_
  rw [rounds_succ]
  go_wp2_with (first
    | (go_at_call 12; refine (try_none (n0 W) who lock).mono ?_; rintro e w' ⟨rfl, rfl⟩)
    | (go_at_call 11; refine (free_none (n0 W) who lock).mono ?_; rintro e w' ⟨rfl, rfl⟩)
    | (go_at_call 13; refine (locks_none (n0 W)).mono ?_; rintro e w' ⟨rfl, rfl⟩)
    | (go_at_call 14; refine (holder_none (n0 W) lock).mono ?_; rintro e w' ⟨rfl, rfl⟩)
    | (go_at_call 17; refine (held_none (n0 W) who).mono ?_; rintro e w' ⟨rfl, rfl⟩)
    | (go_at_call 15; refine (copy_none (n0 W)).mono ?_; rintro e w' ⟨rfl, rfl⟩))
  rw [rounds_succ]
  go_wp2_with (first
    | (go_at_call 12; refine (try_none n1 who lock).mono ?_; rintro e w' ⟨rfl, rfl⟩)
    | (go_at_call 11; refine (free_none n1 who lock).mono ?_; rintro e w' ⟨rfl, rfl⟩)
    | (go_at_call 13; refine (locks_none n1).mono ?_; rintro e w' ⟨rfl, rfl⟩)
    | (go_at_call 14; refine (holder_none n1 lock).mono ?_; rintro e w' ⟨rfl, rfl⟩)
    | (go_at_call 17; refine (held_none n1 who).mono ?_; rintro e w' ⟨rfl, rfl⟩)
    | (go_at_call 15; refine (copy_none n1).mono ?_; rintro e w' ⟨rfl, rfl⟩))
  rw [rounds_succ]
  go_wp2_with fail
  refine (known_any W).mono ?_
  rintro e w' ⟨rfl, hb⟩
  go_wp2_with fail
  go_ret
  exact ⟨rfl, hbl.trans (hb.mono hbl.size)⟩
end Go.Proofs.Yteafbkgaihjieaa
