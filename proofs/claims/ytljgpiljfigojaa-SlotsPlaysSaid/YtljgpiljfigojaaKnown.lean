/-
  Slots that the call made; the walk of 'known': it returns true, and turns nothing that was there.
-/
import Derived.Test.YtljgpiljfigojaaIter
namespace Go.Proofs.Ytljgpiljfigojaa
open Go.RowKit

/-- Slots that the call made, and nothing turned that was there. -/
structure St (w0 w : World) (S B n c : Nat) (f : Sl) : Prop where
  ss : SS w w0.heap.size S B n c f
  below : Below w0.heap.size w0 w
  own : w0.heap.size ≤ S
section
variable {w0 w w' : World} {S B n c : Nat} {f : Sl}
theorem St.belowW (s : St w0 w S B n c f) (k : Below w.heap.size w w') : St w0 w' S B n c f := ⟨s.ss.below k, below_then s.below k, s.own⟩
theorem St.only (s : St w0 w S B n c f) {f' : Sl} (t : SS w' w0.heap.size S B n c f') (o : Only w w' B) : St w0 w' S B n c f' := ⟨t, below_only s.below o s.ss.ltB.1, s.own⟩
theorem St.congr (s : St w0 w S B n c f) {f' : Sl} (ok : OkS f') (h : ∀ k, k < n → f k = f' k) : St w0 w S B n c f' := ⟨s.ss.congr ok h, s.below, s.own⟩
theorem new_st (hb : Below w0.heap.size w0 w) (n : Int) {m : Nat} (hm : clampN n = m) :
    Calls Try.prog 9 #[.int .i64 n] w fun e w' => e = .returned (.pointer (some ⟨w.heap.size + 1, 0, none⟩)) ∧ St w0 w' (w.heap.size + 1) w.heap.size m m empty := by
  subst hm
  refine (new_any n w).mono ?_
  rintro e w' ⟨rfl, rfl⟩
  exact ⟨rfl, ss_new w hb.size _ (clampN_le n), below_then hb (below_newW _ _), by have := hb.size; omega⟩
theorem take_st (s : St w0 w S B n c f) (pid page : Int) {k e : Int} {f' : Sl} (h : takeF n f pid page = (k, e, f')) :
    Calls Try.prog 10 #[.pointer (some ⟨S, 0, none⟩), .int .i64 pid, .int .i64 page] w fun r w' => r = .returned (.tuple #[.int .i64 k, .int .i64 e]) ∧ St w0 w' S B n c f' := by
  have := take_any s.ss pid page
  rw [h] at this
  exact this.mono fun _ _ ⟨he, t, o⟩ => ⟨he, s.only t o⟩
theorem free_st (s : St w0 w S B n c f) (slot : Int) {e : Int} {f' : Sl} (h : freeF n f slot = (e, f')) :
    Calls Try.prog 12 #[.pointer (some ⟨S, 0, none⟩), .int .i64 slot] w fun r w' => r = .returned (.int .i64 e) ∧ St w0 w' S B n c f' := by
  have := free_any s.ss slot
  rw [h] at this
  exact this.mono fun _ _ ⟨he, t, o⟩ => ⟨he, s.only t o⟩
theorem owner_st (s : St w0 w S B n c f) (slot : Int) {p : Int × Int} (h : ownerF n f slot = p) :
    Calls Try.prog 14 #[.pointer (some ⟨S, 0, none⟩), .int .i64 slot] w fun r w' => r = .returned (.tuple #[.int .i64 p.1, .int .i64 p.2, .bool (p.1 != 0)]) ∧ St w0 w' S B n c f := by
  subst h
  exact (owner_any s.ss slot).mono fun _ _ ⟨he, k⟩ => ⟨he, s.belowW k⟩
theorem used_st (s : St w0 w S B n c f) {u : Nat} (h : (usedL n f).length = u) :
    Calls Try.prog 11 #[.pointer (some ⟨S, 0, none⟩)] w fun r w' => r = .returned (.int .i64 (u : Int)) ∧ St w0 w' S B n c f := by
  subst h
  exact (used_any s.ss).mono fun _ _ ⟨he, k⟩ => ⟨he, s.belowW k⟩
end
theorem takeF_at {n k : Nat} {f : Sl} {pid page : Int} (hm : mayB pid page = true) (hk : k < n) (h0 : (f k).1 = 0) (hb : ∀ j, j < k → (f j).1 ≠ 0) : takeF n f pid page = ((k : Int), 0, updS f k (pid, page)) := by
  unfold takeF; rw [hm, leastI_at hk h0 hb, if_neg (by simp), if_neg (by omega)]; simp
theorem takeF_full {n : Nat} {f : Sl} {pid page : Int} (hm : mayB pid page = true) (hb : ∀ j, j < n → (f j).1 ≠ 0) : takeF n f pid page = (0, 9, f) := by
  unfold takeF; rw [hm, leastI_none hb, if_neg (by simp), if_pos (by omega)]
theorem freeF_at {n k : Nat} {f : Sl} (hk : k < n) (h0 : (f k).1 ≠ 0) : freeF n f (k : Int) = (0, updS f k (0, 0)) := by
  unfold freeF; rw [badI_nat hk]; simp [h0]

set_option maxHeartbeats 1000000 in
theorem known_any (w : World) : Calls Try.prog 8 #[] w fun e w' => e = .returned (.bool true) ∧ Below w.heap.size w w' := by
  have e1 := takeF_at (n := 2) (k := 0) (f := empty) (pid := 1) (page := 5) rfl (by omega) rfl (fun j hj => by omega)
  have e2 := takeF_at (n := 2) (k := 1) (f := updS empty 0 (1, 5)) (pid := 2) (page := 5) rfl (by omega) rfl (fun j hj => by rcases (show j = 0 by omega) with rfl; decide)
  have e3 := takeF_full (n := 2) (f := updS (updS empty 0 (1, 5)) 1 (2, 5)) (pid := 1) (page := 6) rfl (fun j hj => by
    rcases (show j = 0 ∨ j = 1 by omega) with rfl | rfl <;> decide)
  have e4 := freeF_at (n := 2) (k := 0) (f := updS (updS empty 0 (1, 5)) 1 (2, 5)) (by omega) (by decide)
  have e5 : (usedL 2 (updS (updS (updS empty 0 (1, 5)) 1 (2, 5)) 0 (0, 0))).length = 1 := by decide
  have E1 := Lib.hid e1
  have E2 := Lib.hid e2
  have E3 := Lib.hid e3
  have E4 := Lib.hid e4
  have E5 := Lib.hid e5
  clear e1 e2 e3 e4 e5
  go_enter Try.func8, Try.ntmps8
  go_wp2_with fail
  refine (new_st (Below.refl _ w) 2 (m := 2) rfl).mono ?_
  rintro e w1 ⟨rfl, s1⟩
  go_wp2_with fail
  refine (take_st s1 1 5 E1.out).mono ?_
  rintro e w2 ⟨rfl, s2⟩
  go_wp2_with fail
  refine (take_st s2 2 5 E2.out).mono ?_
  rintro e w3 ⟨rfl, s3⟩
  go_wp2_with fail
  refine (take_st s3 1 6 E3.out).mono ?_
  rintro e w4 ⟨rfl, s4⟩
  go_wp2_with fail
  refine (free_st s4 0 E4.out).mono ?_
  rintro e w5 ⟨rfl, s5⟩
  go_wp2_with fail
  refine (used_st s5 E5.out).mono ?_
  rintro e w6 ⟨rfl, s6⟩
  go_wp2_with fail
  go_ret
  exact ⟨rfl, s6.below⟩
theorem known_then {w0 w : World} (h : Below w0.heap.size w0 w) : Calls Try.prog 8 #[] w fun e w' => e = .returned (.bool true) ∧ Below w0.heap.size w0 w' :=
  (known_any w).mono fun _ _ ⟨he, k⟩ => ⟨he, below_then h k⟩
end Go.Proofs.Ytljgpiljfigojaa
