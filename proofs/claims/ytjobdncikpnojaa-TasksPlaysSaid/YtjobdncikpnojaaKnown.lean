/-
  The walk of 'known': it returns true, and turns nothing that was there.
-/
import Derived.Test.YtjobdncikpnojaaOps
namespace Go.Proofs.Ytjobdncikpnojaa
open Go.RowKit

/-- A table that the call made, and nothing turned that was there. -/
structure St (w0 w : World) (T B n : Nat) (nx : Nat → Value) (dn : Nat → Int) : Prop where
  tt : TT w T B n nx dn
  below : Below w0.heap.size w0 w
  own : w0.heap.size ≤ B
theorem below_only {w0 w w' : World} {b : Nat} (h : Below w0.heap.size w0 w) (ho : Only w w' b) (hb : w0.heap.size ≤ b) : Below w0.heap.size w0 w' :=
  h.grown ho h.size (fun k hk => by cases hk; exact hb)
theorem new_st {w0 w : World} (hb : Below w0.heap.size w0 w) (n : Int) {m : Nat} (hm : clampN n = m) :
    Calls Try.prog 13 #[.int .i64 n] w fun e w' => e = .returned (.pointer (some ⟨w.heap.size + 1, 0, none⟩)) ∧ St w0 w' (w.heap.size + 1) w.heap.size m (fun _ => .nilFunc) (fun _ => 0) := by
  subst hm
  refine (new_any n w).mono ?_
  rintro e w' ⟨rfl, rfl⟩
  exact ⟨rfl, tt_new w _ (clampN_le n), hb.trans ((below_newW w _).mono hb.size), hb.size⟩
variable {w0 w : World} {T B n : Nat} {nx : Nat → Value} {dn : Nat → Int}
theorem start_st (s : St w0 w T B n nx dn) (k : Nat) (hk : k < n) (a : Fn) (b c : Array Value) (hn : nx k = .nilFunc) :
    Calls Try.prog 9 #[.pointer (some ⟨T, 0, none⟩), .int .i64 (k : Int), .func a b c] w fun e w' => e = .returned (.int .i64 0) ∧ St w0 w' T B n (upV nx k (.func a b c)) dn := by
  refine (start_ok s.tt k hk a b c hn).mono ?_
  rintro e w' ⟨rfl, rfl⟩
  exact ⟨rfl, s.tt.setN k _, below_only s.below (only_set (only_refl _ _) _ _) s.own, s.own⟩
theorem run_st (s : St w0 w T B n nx dn) (k : Nat) (hk : k < n) (f : Bool) (F : Nat) (cap : Array Value) (hn : nx k = .func (.func F) #[] cap) (hd : 0 ≤ dn k) (hd2 : dn k < 1000000)
    (v : Value) (z : Bool) (hz : StepV v z) (hcf : ∀ (xs : Array Value) (W : World), Sem.run Try.prog (callFunc F xs) W = .ok (.enter F xs) W)
    (hc : ∀ W : World, Calls Try.prog F (#[.bool f] ++ cap) W fun e w' => e = .returned v ∧ W = w') :
    Calls Try.prog 8 #[.pointer (some ⟨T, 0, none⟩), .int .i64 (k : Int), .bool f] w fun e w' => e = .returned (.tuple #[.bool z, .int .i64 0]) ∧ St w0 w' T B n (upV nx k v) (upI dn k (dn k + 1)) := by
  refine (run_fn s.tt k hk f F cap hn hd hd2 (fun v' w' => v' = v ∧ w' = w.setCell ⟨B, k * 2 + 1, none⟩ (.int .i64 (dn k + 1))) hcf ?_).mono ?_
  · refine (hc _).mono ?_
    rintro e w' ⟨rfl, rfl⟩
    exact ⟨v, z, rfl, hz, s.tt.setD k _, rfl, rfl⟩
  · rintro e w' ⟨v', z', w2, rfl, hz', t2, rfl, rfl, rfl⟩
    have : z' = z := by cases hz <;> cases hz' <;> rfl
    subst this
    exact ⟨rfl, t2.setN k _, below_only s.below (only_set (only_set (only_refl _ _) _ _) _ _) s.own, s.own⟩

theorem cf23 (xs : Array Value) (W : World) : Sem.run Try.prog (callFunc 23 xs) W = .ok (.enter 23 xs) W := by kernel_rfl
theorem cf24 (xs : Array Value) (W : World) : Sem.run Try.prog (callFunc 24 xs) W = .ok (.enter 24 xs) W := by kernel_rfl
theorem step23 (f : Bool) (W : World) : Calls Try.prog 23 (#[.bool f] ++ #[]) W fun e w' => e = .returned (.func (.func 24) #[] #[]) ∧ W = w' := by
  show Calls Try.prog 23 #[.bool f] W _
  go_enter Try.func23, Try.ntmps23
  go_wp2
  go_ret
  exact ⟨rfl, rfl⟩
theorem step24 (f : Bool) (W : World) : Calls Try.prog 24 (#[.bool f] ++ #[]) W fun e w' => e = .returned .nilFunc ∧ W = w' := by
  show Calls Try.prog 24 #[.bool f] W _
  go_enter Try.func24, Try.ntmps24
  go_wp2
  go_ret
  exact ⟨rfl, rfl⟩

theorem known_any (w : World) : Calls Try.prog 14 #[] w fun e w' => e = .returned (.bool true) ∧ Below w.heap.size w w' := by
  go_enter Try.func14, Try.ntmps14
  go_wp2_with fail
  refine (new_st (Below.refl _ _) 2 (m := 2) (by decide)).mono ?_
  rintro e w1 ⟨rfl, s⟩
  generalize w.heap.size + 1 = T at *
  go_wp2_with (go_at_call 12; refine (cpus_any s.tt).mono ?_; rintro e w' ⟨rfl, rfl⟩)
  refine (start_st s 0 (by omega) _ _ _ rfl).mono ?_
  rintro e w2 ⟨rfl, s⟩
  go_wp2_with fail
  refine (start_busy s.tt 0 (by omega) _ _ _ rfl).mono ?_
  rintro e w' ⟨rfl, rfl⟩
  go_wp2_with fail
  refine (busy_ok s.tt 0 (by omega) (.fn _ _ _)).mono ?_
  rintro e w' ⟨rfl, rfl⟩
  go_wp2_with fail
  refine (run_st s 0 (by omega) false 23 #[] rfl (by decide) (by decide) _ _ (.fn _ _ _) cf23 (step23 false)).mono ?_
  rintro e w3 ⟨rfl, s⟩
  go_wp2_with fail
  refine (run_st s 0 (by omega) false 24 #[] rfl (by decide) (by decide) _ _ .nil cf24 (step24 false)).mono ?_
  rintro e w4 ⟨rfl, s⟩
  go_wp2_with fail
  refine (run_idle s.tt 0 (by omega) false rfl).mono ?_
  rintro e w' ⟨rfl, rfl⟩
  go_wp2_with fail
  refine (steps_ok s.tt 0 (by omega)).mono ?_
  rintro e w' ⟨rfl, rfl⟩
  go_wp2_with fail
  refine (busy_ok s.tt 0 (by omega) .nil).mono ?_
  rintro e w' ⟨rfl, rfl⟩
  go_wp2_with fail
  go_ret
  exact ⟨rfl, s.below⟩
end Go.Proofs.Ytjobdncikpnojaa
