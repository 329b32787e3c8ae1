/-
  A map that the call made; the walk of 'known': it returns true, and turns nothing that was there.
-/
import Derived.Test.YtlnddehknpfliaaSet
namespace Go.Proofs.Ytlnddehknpfliaa
open Go.RowKit

/-- A map that the call made, and nothing turned that was there. -/
structure St (w0 w : World) (D F b n c : Nat) (f : Fr) : Prop where
  tt : TT w w0.heap.size D F b n c f
  below : Below w0.heap.size w0 w
  own : w0.heap.size ≤ D
section
variable {w0 w w' : World} {D F b n c : Nat} {f : Fr}
theorem St.belowW (s : St w0 w D F b n c f) (k : Below w.heap.size w w') : St w0 w' D F b n c f := ⟨s.tt.below k, below_then s.below k, s.own⟩
theorem St.two (s : St w0 w D F b n c f) {f' : Fr} (t : TT w' w0.heap.size D F b n c f') (o : Two w w' F b) : St w0 w' D F b n c f' := ⟨t, below_two s.below o s.tt.ltF.1 s.tt.ltb.1, s.own⟩
/-- What another one does leaves it alone. -/
structure Ap (D F b D' F' b' : Nat) : Prop where
  h : D ≠ F' ∧ D ≠ b' ∧ F ≠ F' ∧ F ≠ b' ∧ b ≠ F' ∧ b ≠ b'
theorem St.other (s : St w0 w D F b n c f) {D' F' b' : Nat} (o : Two w w' F' b') (h : Ap D F b D' F' b') (hF : w0.heap.size ≤ F') (hb : w0.heap.size ≤ b') : St w0 w' D F b n c f :=
  ⟨s.tt.two o h.h, below_two s.below o hF hb, s.own⟩
theorem new_st (hb : Below w0.heap.size w0 w) (n : Int) {m : Nat} (hm : clampN n = m) :
    Calls Try.prog 9 #[.int .i64 n] w fun e w' => e = .returned (.pointer (some ⟨w.heap.size + 2, 0, none⟩)) ∧ St w0 w' (w.heap.size + 2) w.heap.size (w.heap.size + 1) m m none0 ∧ Below w.heap.size w w' := by
  subst hm
  refine (new_any n w).mono ?_
  rintro e w' ⟨rfl, rfl⟩
  exact ⟨rfl, ⟨tt_new w hb.size _ (clampN_le n), below_then hb (below_newW _ _), by have := hb.size; omega⟩, below_newW _ _⟩
theorem set_st (s : St w0 w D F b n c f) (fr pid page : Int) {e : Int} {f' : Fr} (h : setF n f fr (pid, page) = (e, f')) :
    Calls Try.prog 10 #[.pointer (some ⟨D, 0, none⟩), .int .i64 fr, .int .i64 pid, .int .i64 page] w fun r w' => r = .returned (.int .i64 e) ∧ St w0 w' D F b n c f' ∧ Two w w' F b := by
  have := set_any s.tt fr pid page
  rw [h] at this
  exact this.mono fun _ _ ⟨he, t, o⟩ => ⟨he, s.two t o, o⟩
theorem clear_st (s : St w0 w D F b n c f) (fr : Int) {e : Int} {f' : Fr} (h : clearF n f fr = (e, f')) :
    Calls Try.prog 11 #[.pointer (some ⟨D, 0, none⟩), .int .i64 fr] w fun r w' => r = .returned (.int .i64 e) ∧ St w0 w' D F b n c f' ∧ Two w w' F b := by
  have := clear_any s.tt fr
  rw [h] at this
  exact this.mono fun _ _ ⟨he, t, o⟩ => ⟨he, s.two t o, o⟩
theorem get_st (s : St w0 w D F b n c f) (fr : Int) {p : Pg} (h : getF n f fr = p) :
    Calls Try.prog 13 #[.pointer (some ⟨D, 0, none⟩), .int .i64 fr] w fun r w' => r = .returned (.tuple #[.int .i64 p.1, .int .i64 p.2, .bool (p.1 != 0)]) ∧ St w0 w' D F b n c f ∧ Below w.heap.size w w' := by
  subst h
  exact (get_any s.tt fr).mono fun _ _ ⟨he, k⟩ => ⟨he, s.belowW k, k⟩
end
theorem setF_at {n k : Nat} {f : Fr} {pid page : Int} (hm : mayB (pid, page) = true) (hk : k < n) (h0 : (f k).1 = 0) (hf : findO n f (pid, page) = none) : setF n f (k : Int) (pid, page) = (0, updF f k (pid, page)) := by
  unfold setF; rw [badI_nat hk, hm, hf]; simp [h0]
theorem setF_busy {n k : Nat} {f : Fr} {pid page : Int} (hm : mayB (pid, page) = true) (hk : k < n) (h0 : (f k).1 ≠ 0) : setF n f (k : Int) (pid, page) = (80, f) := by
  unfold setF; rw [badI_nat hk, hm]; simp [h0]
theorem setF_twice {n k j : Nat} {f : Fr} {pid page : Int} (hm : mayB (pid, page) = true) (hk : k < n) (h0 : (f k).1 = 0) (hf : findO n f (pid, page) = some j) : setF n f (k : Int) (pid, page) = (8, f) := by
  unfold setF; rw [badI_nat hk, hm, hf]; simp [h0]
theorem clearF_at {n k : Nat} {f : Fr} (hk : k < n) (h0 : (f k).1 ≠ 0) : clearF n f (k : Int) = (0, updF f k (0, 0)) := by
  unfold clearF; rw [badI_nat hk]; simp [h0]
theorem clearF_none {n k : Nat} {f : Fr} (hk : k < n) (h0 : (f k).1 = 0) : clearF n f (k : Int) = (7, f) := by
  unfold clearF; rw [badI_nat hk]; simp [h0]
theorem getF_nat {n k : Nat} {f : Fr} (hk : k < n) : getF n f (k : Int) = f k := by unfold getF; rw [badI_nat hk]; simp

set_option maxHeartbeats 1000000 in
theorem known_any (w : World) : Calls Try.prog 8 #[] w fun e w' => e = .returned (.bool true) ∧ Below w.heap.size w w' := by
  have e1 := setF_at (n := 4) (k := 2) (f := none0) (pid := 1) (page := 7) rfl (by omega) rfl (findO_none0 _ _)
  have e2 := setF_busy (n := 4) (k := 2) (f := updF none0 2 (1, 7)) (pid := 1) (page := 8) rfl (by omega) (by rw [updF_same]; decide)
  have e3 := setF_twice (n := 4) (k := 3) (f := updF none0 2 (1, 7)) (pid := 1) (page := 7) rfl (by omega) rfl (j := 2) (by decide)
  have e4 := getF_nat (n := 4) (k := 2) (f := updF none0 2 (1, 7)) (by omega)
  have e5 := clearF_at (n := 4) (k := 2) (f := updF none0 2 (1, 7)) (by omega) (by rw [updF_same]; decide)
  have e6 := clearF_none (n := 4) (k := 2) (f := updF (updF none0 2 (1, 7)) 2 (0, 0)) (by omega) (by rw [updF_same])
  rw [updF_same] at e4
  have E1 := Lib.hid e1
  have E2 := Lib.hid e2
  have E3 := Lib.hid e3
  have E4 := Lib.hid e4
  have E5 := Lib.hid e5
  have E6 := Lib.hid e6
  clear e1 e2 e3 e4 e5 e6
  go_enter Try.func8, Try.ntmps8
  go_wp2_with fail
  refine (new_st (Below.refl _ w) 4 (m := 4) rfl).mono ?_
  rintro e w1 ⟨rfl, s1, _⟩
  go_wp2_with fail
  refine (set_st s1 2 1 7 E1.out).mono ?_
  rintro e w2 ⟨rfl, s2, _⟩
  go_wp2_with fail
  refine (set_st s2 2 1 8 E2.out).mono ?_
  rintro e w3 ⟨rfl, s3, _⟩
  go_wp2_with fail
  refine (set_st s3 3 1 7 E3.out).mono ?_
  rintro e w4 ⟨rfl, s4, _⟩
  go_wp2_with fail
  refine (get_st s4 2 E4.out).mono ?_
  rintro e w5 ⟨rfl, s5, _⟩
  go_wp2_with fail
  refine (clear_st s5 2 E5.out).mono ?_
  rintro e w6 ⟨rfl, s6, _⟩
  go_wp2_with fail
  refine (clear_st s6 2 E6.out).mono ?_
  rintro e w7 ⟨rfl, s7, _⟩
  go_wp2_with fail
  go_ret
  exact ⟨rfl, s7.below⟩
end Go.Proofs.Ytlnddehknpfliaa
