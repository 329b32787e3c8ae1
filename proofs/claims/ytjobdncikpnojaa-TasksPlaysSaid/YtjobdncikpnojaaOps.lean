/-
  The walks of Start, Busy, Steps, and of Run ahead of its step.
-/
import Derived.Test.YtjobdncikpnojaaTab
namespace Go.Proofs.Ytjobdncikpnojaa
open Go.RowKit

/-- A step's value: nil, or a function. -/
inductive StepV : Value → Bool → Prop
  | nil : StepV .nilFunc true
  | fn (a : Fn) (b c : Array Value) : StepV (.func a b c) false

variable {w : World} {T B n : Nat} {nx : Nat → Value} {dn : Nat → Int}

theorem eq_fn (a : Fn) (b c : Array Value) (W : World) : Sem.run Try.prog (binOp BinOp.eql 26 (Value.func a b c) Value.nilFunc) W = .ok (.bool false) W := by kernel_rfl
theorem ne_fn (a : Fn) (b c : Array Value) (W : World) : Sem.run Try.prog (binOp BinOp.neq 26 (Value.func a b c) Value.nilFunc) W = .ok (.bool true) W := by kernel_rfl
theorem eq_nil (W : World) : Sem.run Try.prog (binOp BinOp.eql 26 Value.nilFunc Value.nilFunc) W = .ok (.bool true) W := by kernel_rfl
theorem ne_nil (W : World) : Sem.run Try.prog (binOp BinOp.neq 26 Value.nilFunc Value.nilFunc) W = .ok (.bool false) W := by kernel_rfl

theorem start_bad (t : TT w T B n nx dn) (i : Int) (hb : badI n i = true) (v : Value) :
    Calls Try.prog 9 #[.pointer (some ⟨T, 0, none⟩), .int .i64 i, v] w fun e w' => e = .returned (.int .i64 2) ∧ w = w' := by
  go_enter Try.func9, Try.ntmps9
  go_wp2_with (first
    | (go_at_call 21; refine (at_bad t i hb).mono ?_; rintro e w' ⟨rfl, rfl⟩)
    | (go_at_call 22; refine (ready_any t).mono ?_; rintro e w' ⟨rfl, rfl⟩))
  go_ret
  exact ⟨rfl, rfl⟩
theorem start_nil (t : TT w T B n nx dn) (k : Nat) (hk : k < n) :
    Calls Try.prog 9 #[.pointer (some ⟨T, 0, none⟩), .int .i64 (k : Int), .nilFunc] w fun e w' => e = .returned (.int .i64 2) ∧ w = w' := by
  have h1 := eq_nil
  have h2 := ne_nil
  go_enter Try.func9, Try.ntmps9
  go_wp2_with (first
    | (go_at_call 21; refine (at_ok t k hk).mono ?_; rintro e w' ⟨rfl, rfl⟩)
    | (go_at_call 22; refine (ready_any t).mono ?_; rintro e w' ⟨rfl, rfl⟩))
  go_ret
  exact ⟨rfl, rfl⟩
theorem start_busy (t : TT w T B n nx dn) (k : Nat) (hk : k < n) (a : Fn) (b c : Array Value) {a' : Fn} {b' c' : Array Value} (hn : nx k = .func a' b' c') :
    Calls Try.prog 9 #[.pointer (some ⟨T, 0, none⟩), .int .i64 (k : Int), .func a b c] w fun e w' => e = .returned (.int .i64 80) ∧ w = w' := by
  have h1 := eq_fn
  have h2 := ne_fn
  have cn := t.cn hk
  rw [hn] at cn
  go_enter Try.func9, Try.ntmps9
  go_wp2_with (first
    | (go_at_call 21; refine (at_ok t k hk).mono ?_; rintro e w' ⟨rfl, rfl⟩)
    | (go_at_call 22; refine (ready_any t).mono ?_; rintro e w' ⟨rfl, rfl⟩))
  go_ret
  exact ⟨rfl, rfl⟩
theorem start_ok (t : TT w T B n nx dn) (k : Nat) (hk : k < n) (a : Fn) (b c : Array Value) (hn : nx k = .nilFunc) :
    Calls Try.prog 9 #[.pointer (some ⟨T, 0, none⟩), .int .i64 (k : Int), .func a b c] w fun e w' => e = .returned (.int .i64 0) ∧ w' = w.setCell ⟨B, k * 2, none⟩ (.func a b c) := by
  have h1 := eq_fn
  have h2 := ne_nil
  have cn := t.cn hk
  have fz := t.row.frozen (k * 2)
  rw [hn] at cn
  go_enter Try.func9, Try.ntmps9
  go_wp2_with (first
    | (go_at_call 21; refine (at_ok t k hk).mono ?_; rintro e w' ⟨rfl, rfl⟩)
    | (go_at_call 22; refine (ready_any t).mono ?_; rintro e w' ⟨rfl, rfl⟩))
  go_ret
  exact ⟨rfl, rfl⟩

theorem busy_bad (t : TT w T B n nx dn) (i : Int) (hb : badI n i = true) :
    Calls Try.prog 10 #[.pointer (some ⟨T, 0, none⟩), .int .i64 i] w fun e w' => e = .returned (.bool false) ∧ w = w' := by
  go_enter Try.func10, Try.ntmps10
  go_wp2_with (go_at_call 21; refine (at_bad t i hb).mono ?_; rintro e w' ⟨rfl, rfl⟩)
  go_ret
  exact ⟨rfl, rfl⟩
theorem busy_ok (t : TT w T B n nx dn) (k : Nat) (hk : k < n) {z : Bool} (hz : StepV (nx k) z) :
    Calls Try.prog 10 #[.pointer (some ⟨T, 0, none⟩), .int .i64 (k : Int)] w fun e w' => e = .returned (.bool (!z)) ∧ w = w' := by
  have h1 := ne_fn
  have h2 := ne_nil
  have cn := t.cn hk
  generalize nx k = v at *
  cases hz
  all_goals
    go_enter Try.func10, Try.ntmps10
    go_wp2_with (go_at_call 21; refine (at_ok t k hk).mono ?_; rintro e w' ⟨rfl, rfl⟩)
    go_ret
    exact ⟨rfl, rfl⟩
theorem steps_bad (t : TT w T B n nx dn) (i : Int) (hb : badI n i = true) :
    Calls Try.prog 11 #[.pointer (some ⟨T, 0, none⟩), .int .i64 i] w fun e w' => e = .returned (.int .i64 0) ∧ w = w' := by
  go_enter Try.func11, Try.ntmps11
  go_wp2_with (go_at_call 21; refine (at_bad t i hb).mono ?_; rintro e w' ⟨rfl, rfl⟩)
  go_ret
  exact ⟨rfl, rfl⟩
theorem steps_ok (t : TT w T B n nx dn) (k : Nat) (hk : k < n) :
    Calls Try.prog 11 #[.pointer (some ⟨T, 0, none⟩), .int .i64 (k : Int)] w fun e w' => e = .returned (.int .i64 (dn k)) ∧ w = w' := by
  have cd := t.cd hk
  go_enter Try.func11, Try.ntmps11
  go_wp2_with (go_at_call 21; refine (at_ok t k hk).mono ?_; rintro e w' ⟨rfl, rfl⟩)
  go_ret
  exact ⟨rfl, rfl⟩

theorem run_bad (t : TT w T B n nx dn) (i : Int) (hb : badI n i = true) (f : Bool) :
    Calls Try.prog 8 #[.pointer (some ⟨T, 0, none⟩), .int .i64 i, .bool f] w fun e w' => e = .returned (.tuple #[.bool false, .int .i64 2]) ∧ w = w' := by
  go_enter Try.func8, Try.ntmps8
  go_wp2_with (first
    | (go_at_call 21; refine (at_bad t i hb).mono ?_; rintro e w' ⟨rfl, rfl⟩)
    | (go_at_call 22; refine (ready_any t).mono ?_; rintro e w' ⟨rfl, rfl⟩))
  go_ret2
  exact ⟨rfl, rfl⟩
theorem run_idle (t : TT w T B n nx dn) (k : Nat) (hk : k < n) (f : Bool) (hn : nx k = .nilFunc) :
    Calls Try.prog 8 #[.pointer (some ⟨T, 0, none⟩), .int .i64 (k : Int), .bool f] w fun e w' => e = .returned (.tuple #[.bool false, .int .i64 220]) ∧ w = w' := by
  have h1 := eq_nil
  have cn := t.cn hk
  rw [hn] at cn
  go_enter Try.func8, Try.ntmps8
  go_wp2_with (first
    | (go_at_call 21; refine (at_ok t k hk).mono ?_; rintro e w' ⟨rfl, rfl⟩)
    | (go_at_call 22; refine (ready_any t).mono ?_; rintro e w' ⟨rfl, rfl⟩))
  go_ret2
  exact ⟨rfl, rfl⟩
theorem run_fn (t : TT w T B n nx dn) (k : Nat) (hk : k < n) (f : Bool) (F : Nat) (cap : Array Value) (hn : nx k = .func (.func F) #[] cap) (hd : 0 ≤ dn k) (hd2 : dn k < 1000000)
    (Q : Value → World → Prop) (hcf : ∀ (xs : Array Value) (W : World), Sem.run Try.prog (callFunc F xs) W = .ok (.enter F xs) W)
    (hc : Calls Try.prog F (#[.bool f] ++ cap) (w.setCell ⟨B, k * 2 + 1, none⟩ (.int .i64 (dn k + 1))) fun e w' => ∃ v z, e = .returned v ∧ StepV v z ∧ TT w' T B n nx (upI dn k (dn k + 1)) ∧ Q v w') :
    Calls Try.prog 8 #[.pointer (some ⟨T, 0, none⟩), .int .i64 (k : Int), .bool f] w fun e w' => ∃ v z w2, e = .returned (.tuple #[.bool z, .int .i64 0]) ∧ StepV v z ∧ TT w2 T B n nx (upI dn k (dn k + 1)) ∧ w' = w2.setCell ⟨B, k * 2, none⟩ v ∧ Q v w2 := by
  have h1 := eq_fn
  have h2 := eq_nil
  have cn := t.cn hk
  have cd := t.cd hk
  have fz := t.row.frozen (k * 2)
  have fz := t.row.frozen (k * 2 + 1)
  have hw : wrap64 (dn k + 1) = dn k + 1 := by unfold wrap64; omega
  rw [hn] at cn
  go_enter Try.func8, Try.ntmps8
  go_wp2_with (first
    | (go_at_call 21; refine (at_ok t k hk).mono ?_; rintro e w' ⟨rfl, rfl⟩)
    | (go_at_call 22; refine (ready_any t).mono ?_; rintro e w' ⟨rfl, rfl⟩))
  refine hc.mono ?_
  rintro e w2 ⟨v, z, rfl, hv, t2, q⟩
  have cn2 := t2.cn hk
  have fz2 := t2.row.frozen (k * 2)
  clear cn cd
  cases hv
  · go_wp2
    go_ret2
    exact ⟨_, _, _, rfl, .nil, t2, rfl, q⟩
  · go_wp2
    go_ret2
    exact ⟨_, _, _, rfl, .fn _ _ _, t2, rfl, q⟩
end Go.Proofs.Ytjobdncikpnojaa
