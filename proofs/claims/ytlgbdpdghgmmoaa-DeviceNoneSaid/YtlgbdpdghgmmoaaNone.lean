/-
  A device that is not there, or was not made, refuses.
-/
import Derived.Test.YtlgbdpdghgmmoaaKnown
namespace Go.Proofs.Ytlgbdpdghgmmoaa
open Go.RowKit

/-- No device: nil, or a zero one. -/
inductive NoDev (w : World) : Option Addr → Prop
  | nil : NoDev w none
  | zero (b : Nat) (c0 : w.cell? ⟨b, 0, none⟩ = some (.slice none 0 0)) (cm : w.cell? ⟨b, 1, none⟩ = some (.bool false)) : NoDev w (some ⟨b, 0, none⟩)

theorem at_none {w : World} {p : Option Addr} (h : NoDev w p) (i : Int) :
    Calls Try.prog 19 #[.pointer p, .int .i64 i] w fun e w' => e = .returned (.tuple #[.pointer none, .int .i64 1]) ∧ w = w' := by
  cases h with
  | nil =>
    go_enter Try.func19, Try.ntmps19
    go_wp2
    go_ret2
    exact ⟨rfl, rfl⟩
  | zero b c0 cm =>
    go_enter Try.func19, Try.ntmps19
    go_wp2
    go_ret2
    exact ⟨rfl, rfl⟩

theorem write_none {w : World} {p : Option Addr} (h : NoDev w p) (i : Int) (a : Option Addr) (len cap : Nat) (fail : Bool) :
    Calls Try.prog 10 #[.pointer p, .int .i64 i, .slice a len cap, .bool fail] w fun e w' => e = .returned (.int .i64 1) ∧ w = w' := by
  go_enter Try.func10, Try.ntmps10
  go_wp2_with (go_at_call 19; refine (at_none h i).mono ?_; rintro e w' ⟨rfl, rfl⟩)
  go_ret
  exact ⟨rfl, rfl⟩
theorem read_none {w : World} {p : Option Addr} (h : NoDev w p) (i : Int) (fail : Bool) :
    Calls Try.prog 12 #[.pointer p, .int .i64 i, .bool fail] w fun e w' => e = .returned (.tuple #[.slice none 0 0, .int .i64 1]) ∧ w = w' := by
  go_enter Try.func12, Try.ntmps12
  go_wp2_with (go_at_call 19; refine (at_none h i).mono ?_; rintro e w' ⟨rfl, rfl⟩)
  go_ret2
  exact ⟨rfl, rfl⟩
theorem slots_none {w : World} {p : Option Addr} (h : NoDev w p) :
    Calls Try.prog 14 #[.pointer p] w fun e w' => e = .returned (.int .i64 0) ∧ w = w' := by
  cases h with
  | nil =>
    go_enter Try.func14, Try.ntmps14
    go_wp2
    go_ret
    exact ⟨rfl, rfl⟩
  | zero b c0 cm =>
    go_enter Try.func14, Try.ntmps14
    go_wp2
    go_ret
    exact ⟨rfl, rfl⟩
theorem copy_none {w : World} {p : Option Addr} (h : NoDev w p) :
    Calls Try.prog 17 #[.pointer p] w fun e w' => e = .returned (.pointer none) ∧ w = w' := by
  cases h with
  | nil =>
    go_enter Try.func17, Try.ntmps17
    go_wp2
    go_ret
    exact ⟨rfl, rfl⟩
  | zero b c0 cm =>
    go_enter Try.func17, Try.ntmps17
    go_wp2
    go_ret
    exact ⟨rfl, rfl⟩

set_option maxHeartbeats 1000000 in
theorem none_any (slot : Int) (a : Option Addr) (len cap : Nat) (fail : Bool) (w : World) :
    Calls Try.prog 6 #[.int .i64 slot, .slice a len cap, .bool fail] w fun e w' => e = .returned (.bool true) ∧ Below w.heap.size w w' := by
  have n0 : ∀ W : World, NoDev W none := fun W => .nil
  go_enter Try.func6, Try.ntmps6
  go_wp2_with fail
  have hbl : Below w.heap.size w ((w.alloc (Obj.cells #[Value.slice none 0 0, Value.bool false] 47)).alloc (Obj.cells #[Value.pointer none, Value.pointer (some ⟨w.heap.size, 0, none⟩)] 25)) :=
    ((Below.refl _ _).alloc (Nat.le_refl _) _).alloc (by simp) _
  have e0 : ((w.alloc (Obj.cells #[Value.slice none 0 0, Value.bool false] 47)).alloc (Obj.cells #[Value.pointer none, Value.pointer (some ⟨w.heap.size, 0, none⟩)] 25)).cell? ⟨w.heap.size + 1, 0, none⟩ = some (.pointer none) := by go_simp
  have e1 : ((w.alloc (Obj.cells #[Value.slice none 0 0, Value.bool false] 47)).alloc (Obj.cells #[Value.pointer none, Value.pointer (some ⟨w.heap.size, 0, none⟩)] 25)).cell? ⟨w.heap.size + 1, 1, none⟩ = some (.pointer (some ⟨w.heap.size, 0, none⟩)) := by go_simp
  have n1 : NoDev ((w.alloc (Obj.cells #[Value.slice none 0 0, Value.bool false] 47)).alloc (Obj.cells #[Value.pointer none, Value.pointer (some ⟨w.heap.size, 0, none⟩)] 25)) (some ⟨w.heap.size, 0, none⟩) := by
    refine .zero _ ?_ ?_
    · rw [World.cell?_alloc_past _ _ _ (by simp), World.cell?_alloc_new]; rfl
    · rw [World.cell?_alloc_past _ _ _ (by simp), World.cell?_alloc_new]; rfl
  generalize (w.alloc (Obj.cells #[Value.slice none 0 0, Value.bool false] 47)).alloc (Obj.cells #[Value.pointer none, Value.pointer (some ⟨w.heap.size, 0, none⟩)] 25) = W at *
  refine wp_loop_rounds 3 ?_
  rw [rounds_succ]
  go_wp2_with (first
    | (go_at_call 12; refine (read_none (n0 W) slot fail).mono ?_; rintro e w' ⟨rfl, rfl⟩)
    | (go_at_call 10; refine (write_none (n0 W) slot a len cap fail).mono ?_; rintro e w' ⟨rfl, rfl⟩)
    | (go_at_call 14; refine (slots_none (n0 W)).mono ?_; rintro e w' ⟨rfl, rfl⟩)
    | (go_at_call 17; refine (copy_none (n0 W)).mono ?_; rintro e w' ⟨rfl, rfl⟩))
  rw [rounds_succ]
  go_wp2_with (first
    | (go_at_call 12; refine (read_none n1 slot fail).mono ?_; rintro e w' ⟨rfl, rfl⟩)
    | (go_at_call 10; refine (write_none n1 slot a len cap fail).mono ?_; rintro e w' ⟨rfl, rfl⟩)
    | (go_at_call 14; refine (slots_none n1).mono ?_; rintro e w' ⟨rfl, rfl⟩)
    | (go_at_call 17; refine (copy_none n1).mono ?_; rintro e w' ⟨rfl, rfl⟩))
  rw [rounds_succ]
  go_wp2_with fail
  refine (known_any W).mono ?_
  rintro e w' ⟨rfl, hb⟩
  go_wp2_with fail
  go_ret
  exact ⟨rfl, hbl.trans (hb.mono hbl.size)⟩
end Go.Proofs.Ytlgbdpdghgmmoaa
