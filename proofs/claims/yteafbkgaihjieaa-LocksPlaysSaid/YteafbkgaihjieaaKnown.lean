/-
  The walk of 'known': it returns true, and turns nothing that was there.
-/
import Derived.Test.YteafbkgaihjieaaCopy
namespace Go.Proofs.Yteafbkgaihjieaa
open Go.RowKit

/-- A table that the call made, and nothing turned that was there. -/
structure St (w0 w : World) (b n : Nat) (h : Hold) : Prop where
  tab : Tab w b n h
  below : Below w0.heap.size w0 w
  own : w0.heap.size ≤ b
theorem Tab.lt {w : World} {b n : Nat} {h : Hold} (t : Tab w b n h) : b < w.heap.size := t.row.lt
theorem below_only {w0 w w' : World} {b : Nat} (h : Below w0.heap.size w0 w) (ho : Only w w' b) (hb : w0.heap.size ≤ b) : Below w0.heap.size w0 w' :=
  h.grown ho h.size (fun k hk => by cases hk; exact hb)
theorem St.only {w0 w w' : World} {b n : Nat} {h h' : Hold} (s : St w0 w b n h) (t : Tab w' b n h') (ho : Only w w' b) : St w0 w' b n h' :=
  ⟨t, below_only s.below ho s.own, s.own⟩

theorem new_st {w0 w : World} (hb : Below w0.heap.size w0 w) (n : Int) {m : Nat} (hm : clampN n = m) :
    Calls Try.prog 10 #[.int .i64 n] w fun e w' => e = .returned (.pointer (some ⟨w.heap.size, 0, none⟩)) ∧ St w0 w' w.heap.size m free := by
  subst hm
  refine (new_any n w).mono ?_
  rintro e w' ⟨rfl, rfl⟩
  exact ⟨rfl, tab_new w _ (clampN_le n), hb.alloc hb.size _, hb.size⟩
theorem try_st {w0 w : World} {b n : Nat} {h : Hold} (s : St w0 w b n h) (who lock : Int) (hwho : who ≤ 9223372036854775807) {r : Bool} {k : Int} {h' : Hold} (e : tryF n h who lock = (r, k, h')) :
    Calls Try.prog 12 #[.pointer (some ⟨b, 0, none⟩), .int .i64 who, .int .i64 lock] w fun e w' => e = .returned (.tuple #[.bool r, .int .i64 k]) ∧ St w0 w' b n h' := by
  have := try_any b n h who lock w s.tab hwho
  rw [e] at this
  exact this.mono fun _ _ ⟨he, t, o⟩ => ⟨he, s.only t o⟩
theorem free_st {w0 w : World} {b n : Nat} {h : Hold} (s : St w0 w b n h) (who lock : Int) (hwho : who ≤ 9223372036854775807) {k : Int} {h' : Hold} (e : freeF n h who lock = (k, h')) :
    Calls Try.prog 11 #[.pointer (some ⟨b, 0, none⟩), .int .i64 who, .int .i64 lock] w fun e w' => e = .returned (.int .i64 k) ∧ St w0 w' b n h' := by
  have := free_any b n h who lock w s.tab hwho
  rw [e] at this
  exact this.mono fun _ _ ⟨he, t, o⟩ => ⟨he, s.only t o⟩
theorem holder_st {w0 w : World} {b n : Nat} {h : Hold} (s : St w0 w b n h) (lock : Int) {k : Int} (e : holderF n h lock = k) :
    Calls Try.prog 14 #[.pointer (some ⟨b, 0, none⟩), .int .i64 lock] w fun e w' => e = .returned (.int .i64 k) ∧ w = w' := by
  have := holder_any b n h lock w s.tab
  rwa [e] at this

set_option maxHeartbeats 400000 in
theorem known_any (w : World) : Calls Try.prog 9 #[] w fun e w' => e = .returned (.bool true) ∧ Below w.heap.size w w' := by
  go_enter Try.func9, Try.ntmps9
  go_wp2_with fail
  refine (new_st (Below.refl _ w) 3 (m := 3) rfl).mono ?_
  rintro e w1 ⟨rfl, s1⟩
  go_wp2_with fail
  refine (try_st s1 0 1 (by omega) (r := true) (k := 0) (h' := upd free 1 0) rfl).mono ?_
  rintro e w2 ⟨rfl, s2⟩
  go_wp2_with fail
  refine (try_st s2 1 1 (by omega) (r := false) (k := 0) (h' := upd free 1 0) rfl).mono ?_
  rintro e w3 ⟨rfl, s3⟩
  go_wp2_with fail
  refine (try_st s3 0 0 (by omega) (r := false) (k := 50) (h' := upd free 1 0) rfl).mono ?_
  rintro e w4 ⟨rfl, s4⟩
  go_wp2_with fail
  refine (holder_st s4 1 (k := 0) rfl).mono ?_
  rintro e w' ⟨rfl, rfl⟩
  go_wp2_with fail
  refine (free_st s4 0 1 (by omega) (k := 0) (h' := upd (upd free 1 0) 1 (-1)) rfl).mono ?_
  rintro e w5 ⟨rfl, s5⟩
  go_wp2_with fail
  refine (holder_st s5 1 (k := -1) rfl).mono ?_
  rintro e w' ⟨rfl, rfl⟩
  go_wp2_with fail
  go_ret
  exact ⟨rfl, s5.below⟩
end Go.Proofs.Yteafbkgaihjieaa
