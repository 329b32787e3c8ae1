/-
  The table of locks in memory, and the walks of its methods: each does what the plain table does.
-/
import Derived.Test.YteafbkgaihjieaaRows
import Derived.Test.YteafbkgaihjieaaPlain
import Derived.WalkKit
import Derived.WalkSpells
import Derived.WalkLawsBesides
import Derived.Lib.Hide
import Derived.Deep.OwnRows
import Derived.BigQuiet
import Derived.Handy
namespace Go.Proofs.Yteafbkgaihjieaa
open Go.RowKit

/-- What the table's cell i holds: how many locks there are; 64 holders; was it made? -/
def tabF (n : Nat) (h : Hold) (i : Nat) : Value := if i = 0 then .int .i64 n else if i = 65 then .bool true else .int .i64 (enc (h (i - 1)))
/-- Block b is a table of n locks held as h says. -/
structure Tab (w : World) (b n : Nat) (h : Hold) : Prop where
  row : w.rowIs b 50 66 (tabF n h)
  le : n ≤ 64
  ok : OkH h
theorem Tab.c0 {w : World} {b n : Nat} {h : Hold} (t : Tab w b n h) : w.cell? ⟨b, 0, none⟩ = some (.int .i64 n) := t.row.cell (i := 0) (by omega)
theorem Tab.cm {w : World} {b n : Nat} {h : Hold} (t : Tab w b n h) : w.cell? ⟨b, 65, none⟩ = some (.bool true) := t.row.cell (i := 65) (by omega)
theorem Tab.ck {w : World} {b n : Nat} {h : Hold} (t : Tab w b n h) {k : Nat} (hk : k < 64) : w.cell? ⟨b, 1 + k, none⟩ = some (.int .i64 (enc (h k))) := by
  have := t.row.cell (i := 1 + k) (by omega)
  rw [this]; unfold tabF; rw [if_neg (by omega), if_neg (by omega)]; simp
theorem Tab.set {w : World} {b n : Nat} {h : Hold} (t : Tab w b n h) {k : Nat} (hk : k < 64) {v : Int} (h1 : -1 ≤ v) (h2 : v ≤ 9223372036854775807) :
    Tab (w.setCell ⟨b, 1 + k, none⟩ (.int .i64 (enc v))) b n (upd h k v) := by
  refine ⟨(t.row.set (1 + k) _).congr fun i hi => ?_, t.le, okH_upd t.ok k h1 h2⟩
  unfold tabF upd
  by_cases e : i = 1 + k
  · subst e; rw [if_pos rfl, if_neg (by omega), if_neg (by omega), if_pos (by omega)]
  · rw [if_neg e]; split
    · rfl
    · split
      · rfl
      · rw [if_neg (by omega)]

theorem ret_int {k : IntKind} {a b : Int} (h : a = b) : Ending.returned (.int k a) = .returned (.int k b) := by rw [h]
theorem wrap_enc_sub {x : Int} (h : -1 ≤ x ∧ x ≤ 9223372036854775807) : wrap64 (enc x - 1) = x := by
  unfold enc wrap64; split <;> omega
theorem wrap_add_enc {x : Int} (h0 : -1 ≤ x) (h1 : x ≤ 9223372036854775807) : wrap64 (x + 1) = enc x := by
  unfold enc wrap64; split <;> omega
/-- The world has new blocks, and block b may have turned. -/
abbrev Only (w w' : World) (b : Nat) : Prop := w.grownBy w' (some b)
theorem Tab.drewN {w : World} {b n : Nat} {h : Hold} (t : Tab w b n h) (m : Nat) : Tab (w.drewN m) b n h := ⟨t.row, t.le, t.ok⟩
theorem only_drewN (w : World) (b m : Nat) : Only w (w.drewN m) b := ⟨rfl, rfl, rfl, Nat.le_refl _, fun _ _ _ => rfl⟩
theorem only_set {w w' : World} {b : Nat} (h : Only w w' b) (o : Nat) (v : Value) : Only w (w'.setCell ⟨b, o, none⟩ v) b :=
  ⟨h.os, h.tape, h.output, by simpa [World.setCell] using h.size, fun i hi hne => (Below.heap_setCell w' _ v i (by rintro rfl; exact hne rfl)).trans (h.block i hi hne)⟩

theorem bad_false {n : Nat} {who lock : Int} (h : bad n who lock = false) : 0 ≤ who ∧ 0 ≤ lock ∧ lock < n := by
  unfold bad at h; simp at h; omega
theorem bad_true {n : Nat} {who lock : Int} (h : bad n who lock = true) : who < 0 ∨ (0 ≤ who ∧ lock < 0) ∨ (0 ≤ who ∧ 0 ≤ lock ∧ (n : Int) ≤ lock) := by
  unfold bad at h; simp at h; omega

theorem wrong_ok (b n : Nat) (h : Hold) (who lock : Int) (w : World) (t : Tab w b n h) (hb : bad n who lock = false) :
    Calls Try.prog 23 #[.pointer (some ⟨b, 0, none⟩), .int .i64 who, .int .i64 lock] w fun e w' => e = .returned (.int .i64 0) ∧ w = w' := by
  have c0 := t.c0
  have cm := t.cm
  have hn := t.le
  obtain ⟨h1, h2, h3⟩ := bad_false hb
  clear hb t
  go_enter Try.func23, Try.ntmps23
  go_wp2
  go_ret
  exact ⟨rfl, rfl⟩

theorem wrong_bad (b n : Nat) (h : Hold) (who lock : Int) (w : World) (t : Tab w b n h) (hb : bad n who lock = true) :
    Calls Try.prog 23 #[.pointer (some ⟨b, 0, none⟩), .int .i64 who, .int .i64 lock] w fun e w' => e = .returned (.int .i64 2) ∧ w = w' := by
  have c0 := t.c0
  have cm := t.cm
  have hn := t.le
  have hb' := bad_true hb
  clear hb t
  rcases hb' with h1 | ⟨h1, h2⟩ | ⟨h1, h2, h3⟩
  all_goals
    go_enter Try.func23, Try.ntmps23
    go_wp2
    go_ret
    exact ⟨rfl, rfl⟩

theorem holder_any (b n : Nat) (h : Hold) (lock : Int) (w : World) (t : Tab w b n h) :
    Calls Try.prog 14 #[.pointer (some ⟨b, 0, none⟩), .int .i64 lock] w fun e w' => e = .returned (.int .i64 (holderF n h lock)) ∧ w = w' := by
  cases hb : bad n 0 lock with
  | true =>
    have e0 : holderF n h lock = -1 := by unfold holderF; rw [hb]; rfl
    rw [e0]; clear e0
    go_enter Try.func14, Try.ntmps14
    go_wp2_with (go_at_call 23; refine (wrong_bad b n h 0 lock w t hb).mono ?_; rintro e w' ⟨rfl, rfl⟩)
    go_ret
    exact ⟨rfl, rfl⟩
  | false =>
    have e0 : holderF n h lock = h lock.toNat := by unfold holderF; rw [hb]; rfl
    rw [e0]; clear e0
    obtain ⟨h1, h2, h3⟩ := bad_false hb
    have hn := t.le
    obtain ⟨k, rfl⟩ := Int.eq_ofNat_of_zero_le h2
    have hc := t.ck (k := k) (by omega)
    go_enter Try.func14, Try.ntmps14
    go_wp2_with (go_at_call 23; refine (wrong_ok b n h 0 k w t hb).mono ?_; rintro e w' ⟨rfl, rfl⟩)
    go_ret
    exact ⟨ret_int (wrap_enc_sub (t.ok k)), rfl⟩

theorem slice_holders (b L n : Nat) (hL : L < n) (hn : n ≤ 64) (W : World) :
    (Instr.sliceAt 48 (.pointer (some ⟨b, 1, none⟩)) (some (.int .i64 (L : Int))) (some (.int .i64 (n : Int))) none).run Try.prog W = .ok (.slice (some ⟨b, 1 + L, none⟩) (n - L) (64 - L)) W := by
  have ha : Try.prog.arrayLen 48 = 64 := by kernel_rfl
  have he : Try.prog.elem 48 = 3 := by kernel_rfl
  have hu : Try.prog.underlying 48 = some (.array (Try.prog.arrayLen 48) (Try.prog.elem 48)) := by rw [ha, he]; exact Try.underlying48
  rw [run_sliceAt_array_lh W 48 _ hu .i64 .i64 _ _ (by omega) (by omega) (by rw [ha]; omega), he, ha, Try.sizeOf3]
  simp only [Result.andThen, slicedAt, Int.toNat_natCast]
  rw [if_neg (by omega), Nat.mul_one]
  congr 3
  unfold Addr.add; split <;> simp_all

theorem try_any (b n : Nat) (h : Hold) (who lock : Int) (w : World) (t : Tab w b n h) (hwho : who ≤ 9223372036854775807) :
    Calls Try.prog 12 #[.pointer (some ⟨b, 0, none⟩), .int .i64 who, .int .i64 lock] w fun e w' =>
      e = .returned (.tuple #[.bool (tryF n h who lock).1, .int .i64 (tryF n h who lock).2.1]) ∧ Tab w' b n (tryF n h who lock).2.2 ∧ Only w w' b := by
  cases hb : bad n who lock with
  | true =>
    have e0 : tryF n h who lock = (false, 2, h) := by unfold tryF; rw [hb]; rfl
    rw [e0]; clear e0
    go_enter Try.func12, Try.ntmps12
    go_wp2_with (go_at_call 23; refine (wrong_bad b n h who lock w t hb).mono ?_; rintro e w' ⟨rfl, rfl⟩)
    go_ret2
    exact ⟨rfl, t, only_drewN _ _ 0⟩
  | false =>
    obtain ⟨h1, h2, h3⟩ := bad_false hb
    have hn := t.le
    obtain ⟨L, rfl⟩ := Int.eq_ofNat_of_zero_le h2
    have hL : L < n := by omega
    have c0 := t.c0
    have hsl := slice_holders b L n hL hn
    have hw1 := wrap_add_enc (x := who) (by omega) hwho
    go_enter Try.func12, Try.ntmps12
    go_wp2_with (go_at_call 23; refine (wrong_ok b n h who L w t hb).mono ?_; rintro e w' ⟨rfl, rfl⟩)
    go_quiet (fail)
    go_wp2
    go_loop [28] (fun i => ∃ k : Nat, k ≤ n - L ∧ i = .int .i64 k ∧ ∀ j, j < k → h (L + j) ≠ who) (fun i => n - L - (intOf i).toNat)
    case atStart => exact ⟨0, Nat.zero_le _, rfl, fun j hj => absurd hj (Nat.not_lt_zero j)⟩
    case round =>
      obtain ⟨k, hk, rfl, hne⟩ := hrel
      have Hne := Lib.hid hne; clear hne
      by_cases hlt : k < n - L
      · have hc := t.ck (k := L + k) (by omega)
        rw [show 1 + (L + k) = 1 + L + k by omega] at hc
        by_cases heq : h (L + k) = who
        · have e0 : tryF n h who L = (false, 50, h) := by
            unfold tryF; rw [hb, (above_iff n h who (L : Int).toNat).2 ⟨L + k, by omega, by omega, heq⟩]; rfl
          have E0 := Lib.hid e0; clear e0
          have hq : (enc (h (L + k)) == enc who) = true := by rw [heq]; exact beq_self_eq_true _
          clear heq
          go_wp2
          go_ret2
          rw [E0.out]
          exact ⟨rfl, t.drewN _, only_drewN _ _ _⟩
        · have hq : (enc (h (L + k)) == enc who) = false := by
            rw [beq_eq_false_iff_ne]; intro e; exact heq (enc_inj (t.ok.i64 _) ⟨by omega, hwho⟩ e)
          go_wp2
          go_round
          case rel => exact ⟨k + 1, by omega, by go_num, fun j hj => by
            rcases Nat.lt_or_ge j k with hj' | hj'
            · exact Hne.out j hj'
            · obtain rfl : j = k := by omega
              exact heq⟩
          case measure => simp [intOf]; omega
      · have hab : above n h who (L : Int).toNat = false := (above_false n h who _).2 fun i h4 h5 => by
          have := Hne.out (i - L) (by omega)
          rwa [show L + (i - L) = i by omega] at this
        have hc := t.ck (k := L) (by omega)
        by_cases hf : h L = -1
        · have e0 : tryF n h who L = (true, 0, upd h L who) := by
            unfold tryF; rw [hb, hab]; simp [hf]
          have E0 := Lib.hid e0; clear e0
          have hz : (enc (h L) != 0) = false := by rw [hf]; decide
          have hfz := t.row.frozen (1 + L)
          clear hf
          go_wp2
          go_ret2
          rw [E0.out]
          exact ⟨rfl, (t.drewN _).set (by omega) (by omega) hwho, only_set (only_drewN _ _ _) _ _⟩
        · have e0 : tryF n h who L = (false, 0, h) := by
            unfold tryF; rw [hb, hab]; simp [hf]
          have E0 := Lib.hid e0; clear e0
          have hz : (enc (h L) != 0) = true := by rw [bne_iff_ne]; intro e; exact hf ((enc_zero (t.ok.i64 _)).1 e)
          go_wp2
          go_ret2
          rw [E0.out]
          exact ⟨rfl, t.drewN _, only_drewN _ _ _⟩

theorem free_any (b n : Nat) (h : Hold) (who lock : Int) (w : World) (t : Tab w b n h) (hwho : who ≤ 9223372036854775807) :
    Calls Try.prog 11 #[.pointer (some ⟨b, 0, none⟩), .int .i64 who, .int .i64 lock] w fun e w' =>
      e = .returned (.int .i64 (freeF n h who lock).1) ∧ Tab w' b n (freeF n h who lock).2 ∧ Only w w' b := by
  cases hb : bad n who lock with
  | true =>
    have e0 : freeF n h who lock = (2, h) := by unfold freeF; rw [hb]; rfl
    rw [e0]; clear e0
    go_enter Try.func11, Try.ntmps11
    go_wp2_with (go_at_call 23; refine (wrong_bad b n h who lock w t hb).mono ?_; rintro e w' ⟨rfl, rfl⟩)
    go_ret
    exact ⟨rfl, t, only_drewN _ _ 0⟩
  | false =>
    obtain ⟨h1, h2, h3⟩ := bad_false hb
    have hn := t.le
    obtain ⟨L, rfl⟩ := Int.eq_ofNat_of_zero_le h2
    have hL : L < n := by omega
    have hw1 := wrap_add_enc (x := who) (by omega) hwho
    have hc := t.ck (k := L) (by omega)
    have hfz := t.row.frozen (1 + L)
    by_cases hf : h L = who
    · have e0 : freeF n h who L = (0, upd h L (-1)) := by unfold freeF; rw [hb]; simp [hf]
      rw [e0]; clear e0
      have hz : (enc (h L) != enc who) = false := by rw [hf]; simp
      clear hf
      go_enter Try.func11, Try.ntmps11
      go_wp2_with (go_at_call 23; refine (wrong_ok b n h who L w t hb).mono ?_; rintro e w' ⟨rfl, rfl⟩)
      go_ret
      exact ⟨rfl, t.set (v := -1) (by omega) (by omega) (by omega), only_set (only_drewN _ _ 0) _ _⟩
    · have e0 : freeF n h who L = (7, h) := by unfold freeF; rw [hb]; simp [hf]
      rw [e0]; clear e0
      have hz : (enc (h L) != enc who) = true := by
        rw [bne_iff_ne]; intro e; exact hf (enc_inj (t.ok.i64 _) ⟨by omega, hwho⟩ e)
      go_enter Try.func11, Try.ntmps11
      go_wp2_with (go_at_call 23; refine (wrong_ok b n h who L w t hb).mono ?_; rintro e w' ⟨rfl, rfl⟩)
      go_ret
      exact ⟨rfl, t, only_drewN _ _ 0⟩

theorem locks_any (b n : Nat) (h : Hold) (w : World) (t : Tab w b n h) :
    Calls Try.prog 13 #[.pointer (some ⟨b, 0, none⟩)] w fun e w' => e = .returned (.int .i64 n) ∧ w = w' := by
  have c0 := t.c0
  go_enter Try.func13, Try.ntmps13
  go_wp2
  go_ret
  exact ⟨rfl, rfl⟩

end Go.Proofs.Yteafbkgaihjieaa
