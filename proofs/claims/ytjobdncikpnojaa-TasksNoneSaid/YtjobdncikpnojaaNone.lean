/-
  A table that is not there, or was not made, refuses.
-/
import Derived.Test.YtjobdncikpnojaaKnown
namespace Go.Proofs.Ytjobdncikpnojaa
open Go.RowKit

/-- No table: nil, or a zero one. -/
inductive NoTab (w : World) : Option Addr → Prop
  | nil : NoTab w none
  | zero (b : Nat) (c0 : w.cell? ⟨b, 0, none⟩ = some (.slice none 0 0)) : NoTab w (some ⟨b, 0, none⟩)

theorem cpus_none {w : World} {p : Option Addr} (h : NoTab w p) :
    Calls Try.prog 12 #[.pointer p] w fun e w' => e = .returned (.int .i64 0) ∧ w = w' := by
  cases h
  all_goals
    go_enter Try.func12, Try.ntmps12
    go_wp2
    go_ret
    exact ⟨rfl, rfl⟩
theorem ready_none {w : World} {p : Option Addr} (h : NoTab w p) :
    Calls Try.prog 22 #[.pointer p] w fun e w' => e = .returned (.bool false) ∧ w = w' := by
  cases h
  all_goals
    go_enter Try.func22, Try.ntmps22
    go_wp2
    go_ret
    exact ⟨rfl, rfl⟩
theorem at_none {w : World} {p : Option Addr} (h : NoTab w p) (i : Int) :
    Calls Try.prog 21 #[.pointer p, .int .i64 i] w fun e w' => e = .returned (.pointer none) ∧ w = w' := by
  by_cases h0 : i < 0
  all_goals
    go_enter Try.func21, Try.ntmps21
    go_wp2_with (go_at_call 12; refine (cpus_none h).mono ?_; rintro e w' ⟨rfl, rfl⟩)
    go_ret
    exact ⟨rfl, rfl⟩
theorem run_none {w : World} {p : Option Addr} (h : NoTab w p) (i : Int) (f : Bool) :
    Calls Try.prog 8 #[.pointer p, .int .i64 i, .bool f] w fun e w' => e = .returned (.tuple #[.bool false, .int .i64 1]) ∧ w = w' := by
  go_enter Try.func8, Try.ntmps8
  go_wp2_with (first
    | (go_at_call 21; refine (at_none h i).mono ?_; rintro e w' ⟨rfl, rfl⟩)
    | (go_at_call 22; refine (ready_none h).mono ?_; rintro e w' ⟨rfl, rfl⟩))
  go_ret2
  exact ⟨rfl, rfl⟩
theorem start_none {w : World} {p : Option Addr} (h : NoTab w p) (i : Int) (v : Value) :
    Calls Try.prog 9 #[.pointer p, .int .i64 i, v] w fun e w' => e = .returned (.int .i64 1) ∧ w = w' := by
  go_enter Try.func9, Try.ntmps9
  go_wp2_with (first
    | (go_at_call 21; refine (at_none h i).mono ?_; rintro e w' ⟨rfl, rfl⟩)
    | (go_at_call 22; refine (ready_none h).mono ?_; rintro e w' ⟨rfl, rfl⟩))
  go_ret
  exact ⟨rfl, rfl⟩
theorem busy_none {w : World} {p : Option Addr} (h : NoTab w p) (i : Int) :
    Calls Try.prog 10 #[.pointer p, .int .i64 i] w fun e w' => e = .returned (.bool false) ∧ w = w' := by
  go_enter Try.func10, Try.ntmps10
  go_wp2_with (go_at_call 21; refine (at_none h i).mono ?_; rintro e w' ⟨rfl, rfl⟩)
  go_ret
  exact ⟨rfl, rfl⟩
theorem steps_none {w : World} {p : Option Addr} (h : NoTab w p) (i : Int) :
    Calls Try.prog 11 #[.pointer p, .int .i64 i] w fun e w' => e = .returned (.int .i64 0) ∧ w = w' := by
  go_enter Try.func11, Try.ntmps11
  go_wp2_with (go_at_call 21; refine (at_none h i).mono ?_; rintro e w' ⟨rfl, rfl⟩)
  go_ret
  exact ⟨rfl, rfl⟩

theorem start_arg {w : World} {T B n : Nat} {nx : Nat → Value} {dn : Nat → Int} (t : TT w T B n nx dn) (i : Int) :
    Calls Try.prog 9 #[.pointer (some ⟨T, 0, none⟩), .int .i64 i, .nilFunc] w fun e w' => e = .returned (.int .i64 2) ∧ w = w' := by
  cases hb : badI n i with
  | true => exact start_bad t i hb _
  | false =>
    obtain ⟨h1, h2⟩ := badI_false hb
    obtain ⟨k, rfl⟩ := Int.eq_ofNat_of_zero_le h1
    exact start_nil t k (by omega)

set_option maxHeartbeats 1000000 in
theorem none_any (cpu cpus : Int) (w : World) :
    Calls Try.prog 3 #[.int .i64 cpu, .int .i64 cpus] w fun e w' => e = .returned (.bool true) ∧ Below w.heap.size w w' := by
  have n0 : ∀ W : World, NoTab W none := fun W => .nil
  go_enter Try.func3, Try.ntmps3
  go_wp2_with fail
  have hbl : Below w.heap.size w ((w.alloc (Obj.cells #[Value.slice none 0 0] 24)).alloc (Obj.cells #[Value.pointer none, Value.pointer (some ⟨w.heap.size, 0, none⟩)] 27)) :=
    ((Below.refl _ _).alloc (Nat.le_refl _) _).alloc (by simp) _
  have e0 : ((w.alloc (Obj.cells #[Value.slice none 0 0] 24)).alloc (Obj.cells #[Value.pointer none, Value.pointer (some ⟨w.heap.size, 0, none⟩)] 27)).cell? ⟨w.heap.size + 1, 0, none⟩ = some (.pointer none) := by go_simp
  have e1 : ((w.alloc (Obj.cells #[Value.slice none 0 0] 24)).alloc (Obj.cells #[Value.pointer none, Value.pointer (some ⟨w.heap.size, 0, none⟩)] 27)).cell? ⟨w.heap.size + 1, 1, none⟩ = some (.pointer (some ⟨w.heap.size, 0, none⟩)) := by go_simp
  have n1 : NoTab ((w.alloc (Obj.cells #[Value.slice none 0 0] 24)).alloc (Obj.cells #[Value.pointer none, Value.pointer (some ⟨w.heap.size, 0, none⟩)] 27)) (some ⟨w.heap.size, 0, none⟩) := by
    refine .zero _ ?_
    rw [World.cell?_alloc_past _ _ _ (by simp), World.cell?_alloc_new]; rfl
  generalize (w.alloc (Obj.cells #[Value.slice none 0 0] 24)).alloc (Obj.cells #[Value.pointer none, Value.pointer (some ⟨w.heap.size, 0, none⟩)] 27) = W at *
  refine wp_loop_rounds 3 ?_
  rw [rounds_succ]
  go_wp2_with (first
    | (go_at_call 8; refine (run_none (n0 W) cpu false).mono ?_; rintro e w' ⟨rfl, rfl⟩)
    | (go_at_call 9; refine (start_none (n0 W) cpu _).mono ?_; rintro e w' ⟨rfl, rfl⟩)
    | (go_at_call 10; refine (busy_none (n0 W) cpu).mono ?_; rintro e w' ⟨rfl, rfl⟩)
    | (go_at_call 11; refine (steps_none (n0 W) cpu).mono ?_; rintro e w' ⟨rfl, rfl⟩)
    | (go_at_call 12; refine (cpus_none (n0 W)).mono ?_; rintro e w' ⟨rfl, rfl⟩))
  rw [rounds_succ]
  go_wp2_with (first
    | (go_at_call 8; refine (run_none n1 cpu false).mono ?_; rintro e w' ⟨rfl, rfl⟩)
    | (go_at_call 9; refine (start_none n1 cpu _).mono ?_; rintro e w' ⟨rfl, rfl⟩)
    | (go_at_call 10; refine (busy_none n1 cpu).mono ?_; rintro e w' ⟨rfl, rfl⟩)
    | (go_at_call 11; refine (steps_none n1 cpu).mono ?_; rintro e w' ⟨rfl, rfl⟩)
    | (go_at_call 12; refine (cpus_none n1).mono ?_; rintro e w' ⟨rfl, rfl⟩))
  rw [rounds_succ]
  go_wp2_with fail
  refine (new_st (w0 := w) hbl cpus rfl).mono ?_
  rintro e w1 ⟨rfl, s⟩
  generalize W.heap.size + 1 = T at *
  have h3 : (cpus < 0 ∧ (clampN cpus : Int) = 0) ∨ ((0 ≤ cpus ∧ 16 < cpus) ∧ (clampN cpus : Int) = 16) ∨ ((0 ≤ cpus ∧ cpus ≤ 16) ∧ (clampN cpus : Int) = cpus) := by
    unfold clampN
    split
    · exact .inl ⟨‹_›, rfl⟩
    · split
      · exact .inr (.inl ⟨⟨by omega, ‹_›⟩, rfl⟩)
      · exact .inr (.inr ⟨⟨by omega, by omega⟩, by omega⟩)
  rcases h3 with ⟨h0, hm⟩ | ⟨⟨h0, h1⟩, hm⟩ | ⟨⟨h0, h1⟩, hm⟩
  all_goals
    go_wp2_with fail
    refine (cpus_any s.tt).mono ?_
    rintro e w' ⟨rfl, rfl⟩
    rw [hm]
    go_wp2_with fail
    refine (start_arg s.tt cpu).mono ?_
    rintro e w' ⟨rfl, rfl⟩
    go_wp2_with fail
    refine (known_any w1).mono ?_
    rintro e w' ⟨rfl, hb⟩
    go_wp2_with fail
    go_ret
    exact ⟨rfl, s.below.trans (hb.mono s.below.size)⟩
end Go.Proofs.Ytjobdncikpnojaa
