/-
  The table of locks in memory (seat 05's texts in this seat's numbers), and the walks of New, Try, Free, Holder.
-/
import Derived.Test.YtjobdncikpnojaaOwn
namespace Go.Proofs.Ytjobdncikpnojaa.Lk
open Go.RowKit

/-- An int of Go's. -/
def I64 (x : Int) : Prop := -9223372036854775808 ≤ x ∧ x ≤ 9223372036854775807
/-- What the table's cell holds for a holder: the holder and 1, gone round. -/
def enc (x : Int) : Int := if x = 9223372036854775807 then -9223372036854775808 else x + 1
/-- The holder that a cell's number tells. -/
def dec (y : Int) : Int := if y = -9223372036854775808 then 9223372036854775807 else y - 1
theorem dec_enc (x : Int) (h : I64 x) : dec (enc x) = x := by unfold dec enc; obtain ⟨_, _⟩ := h; split <;> split <;> omega
theorem enc_inj {x y : Int} (hx : I64 x) (hy : I64 y) (h : enc x = enc y) : x = y := by rw [← dec_enc x hx, ← dec_enc y hy, h]
theorem enc_zero {x : Int} (hx : I64 x) : enc x = 0 ↔ x = -1 := by unfold enc; obtain ⟨_, _⟩ := hx; split <;> omega
theorem enc_range {x : Int} (hx : I64 x) : I64 (enc x) := by unfold enc I64; obtain ⟨_, _⟩ := hx; split <;> omega

abbrev Hold := Nat → Int
def upd (h : Hold) (k : Nat) (v : Int) : Hold := fun j => if j = k then v else h j
def free : Hold := fun _ => -1
/-- Each holder is nobody (-1) or one who may be. -/
def OkH (h : Hold) : Prop := ∀ k, -1 ≤ h k ∧ h k ≤ 9223372036854775807
theorem OkH.i64 {h : Hold} (o : OkH h) (k : Nat) : I64 (h k) := by have := o k; exact ⟨by omega, by omega⟩
theorem okH_free : OkH free := fun _ => by unfold free; omega
theorem okH_upd {h : Hold} (o : OkH h) (k : Nat) {v : Int} (h1 : -1 ≤ v) (h2 : v ≤ 9223372036854775807) : OkH (upd h k v) := fun j => by
  unfold upd; split
  · exact ⟨h1, h2⟩
  · exact o j

/-- Does somebody hold one of the locks from k on? -/
def above (n : Nat) (h : Hold) (who : Int) (k : Nat) : Bool := (List.range n).any fun i => decide (k ≤ i) && (h i == who)
theorem above_iff (n : Nat) (h : Hold) (who : Int) (k : Nat) : above n h who k = true ↔ ∃ i, k ≤ i ∧ i < n ∧ h i = who := by
  unfold above
  rw [List.any_eq_true]
  constructor
  · rintro ⟨i, hi, hq⟩; simp at hi hq; exact ⟨i, hq.1, hi, hq.2⟩
  · rintro ⟨i, h1, h2, h3⟩; exact ⟨i, by simpa using h2, by simp [h1, h3]⟩
theorem above_false (n : Nat) (h : Hold) (who : Int) (k : Nat) : above n h who k = false ↔ ∀ i, k ≤ i → i < n → h i ≠ who := by
  rw [← Bool.not_eq_true, above_iff]
  constructor
  · intro hh i h1 h2 h3; exact hh ⟨i, h1, h2, h3⟩
  · rintro hh ⟨i, h1, h2, h3⟩; exact hh i h1 h2 h3

def bad (n : Nat) (who lock : Int) : Bool := decide (who < 0) || decide (lock < 0) || decide ((n : Int) ≤ lock)
/-- A try: taken, the errno, what is left. -/
def tryF (n : Nat) (h : Hold) (who lock : Int) : Bool × Int × Hold :=
  if bad n who lock then (false, 2, h) else
  if above n h who lock.toNat then (false, 50, h) else
  if h lock.toNat = -1 then (true, 0, upd h lock.toNat who) else (false, 0, h)
/-- A free: the errno, what is left. -/
def freeF (n : Nat) (h : Hold) (who lock : Int) : Int × Hold :=
  if bad n who lock then (2, h) else
  if h lock.toNat = who then (0, upd h lock.toNat (-1)) else (7, h)
def holderF (n : Nat) (h : Hold) (lock : Int) : Int := if bad n 0 lock then -1 else h lock.toNat
/-- The locks below m that somebody holds, rising. -/
def heldF (h : Hold) (who : Int) (m : Nat) : List Int := ((List.range m).filter fun i => decide (0 ≤ who) && (h i == who)).map fun (i : Nat) => (i : Int)



/-- What the table's cell i holds: how many locks there are; 64 holders; was it made? -/
def tabF (n : Nat) (h : Hold) (i : Nat) : Value := if i = 0 then .int .i64 n else if i = 65 then .bool true else .int .i64 (enc (h (i - 1)))
/-- Block b is a table of n locks held as h says. -/
structure Tab (w : World) (b n : Nat) (h : Hold) : Prop where
  row : w.rowIs b 71 66 (tabF n h)
  le : n ≤ 64
  ok : OkH h
theorem Tab.c0 {w : World} {b n : Nat} {h : Hold} (t : Tab w b n h) : w.cell? ⟨b, 0, none⟩ = some (.int .i64 n) := t.row.cell (i := 0) (by omega)
theorem Tab.cm {w : World} {b n : Nat} {h : Hold} (t : Tab w b n h) : w.cell? ⟨b, 65, none⟩ = some (.bool true) := t.row.cell (i := 65) (by omega)
theorem Tab.ck {w : World} {b n : Nat} {h : Hold} (t : Tab w b n h) {k : Nat} (hk : k < 64) : w.cell? ⟨b, 1 + k, none⟩ = some (.int .i64 (enc (h k))) := by
  have := t.row.cell (i := 1 + k) (by omega)
  rw [this]; unfold tabF; rw [if_neg (by omega), if_neg (by omega)]; simp
theorem Tab.set {w : World} {b n : Nat} {h : Hold} (t : Tab w b n h) {k : Nat} (hk : k < 64) {v : Int} (h1 : -1 ≤ v) (h2 : v ≤ 9223372036854775807) :
    Tab (w.setCell ⟨b, 1 + k, none⟩ (.int .i64 (enc v))) b n (upd h k v) := by
  refine ⟨(t.row.set (1 + k) _).congr fun i hi => ?_, t.le, okH_upd t.ok k h1 h2⟩
  unfold tabF upd
  by_cases e : i = 1 + k
  · subst e; rw [if_pos rfl, if_neg (by omega), if_neg (by omega), if_pos (by omega)]
  · rw [if_neg e]; split
    · rfl
    · split
      · rfl
      · rw [if_neg (by omega)]

theorem wrap_enc_sub {x : Int} (h : -1 ≤ x ∧ x ≤ 9223372036854775807) : wrap64 (enc x - 1) = x := by
  unfold enc wrap64; split <;> omega
theorem wrap_add_enc {x : Int} (h0 : -1 ≤ x) (h1 : x ≤ 9223372036854775807) : wrap64 (x + 1) = enc x := by
  unfold enc wrap64; split <;> omega
theorem Tab.drewN {w : World} {b n : Nat} {h : Hold} (t : Tab w b n h) (m : Nat) : Tab (w.drewN m) b n h := ⟨t.row, t.le, t.ok⟩
theorem only_drew0 (w : World) (b m : Nat) : Only w (w.drewN m) b := ⟨rfl, rfl, rfl, Nat.le_refl _, fun _ _ _ => rfl⟩

theorem bad_false {n : Nat} {who lock : Int} (h : bad n who lock = false) : 0 ≤ who ∧ 0 ≤ lock ∧ lock < n := by
  unfold bad at h; simp at h; omega
theorem bad_true {n : Nat} {who lock : Int} (h : bad n who lock = true) : who < 0 ∨ (0 ≤ who ∧ lock < 0) ∨ (0 ≤ who ∧ 0 ≤ lock ∧ (n : Int) ≤ lock) := by
  unfold bad at h; simp at h; omega

theorem wrong_ok (b n : Nat) (h : Hold) (who lock : Int) (w : World) (t : Tab w b n h) (hb : bad n who lock = false) :
    Calls Try.prog 28 #[.pointer (some ⟨b, 0, none⟩), .int .i64 who, .int .i64 lock] w fun e w' => e = .returned (.int .i64 0) ∧ w = w' := by
  have c0 := t.c0
  have cm := t.cm
  have hn := t.le
  obtain ⟨h1, h2, h3⟩ := bad_false hb
  clear hb t
  go_enter Try.func28, Try.ntmps28
  go_wp2
  go_ret
  exact ⟨rfl, rfl⟩

theorem wrong_bad (b n : Nat) (h : Hold) (who lock : Int) (w : World) (t : Tab w b n h) (hb : bad n who lock = true) :
    Calls Try.prog 28 #[.pointer (some ⟨b, 0, none⟩), .int .i64 who, .int .i64 lock] w fun e w' => e = .returned (.int .i64 2) ∧ w = w' := by
  have c0 := t.c0
  have cm := t.cm
  have hn := t.le
  have hb' := bad_true hb
  clear hb t
  rcases hb' with h1 | ⟨h1, h2⟩ | ⟨h1, h2, h3⟩
  all_goals
    go_enter Try.func28, Try.ntmps28
    go_wp2
    go_ret
    exact ⟨rfl, rfl⟩

theorem holder_any (b n : Nat) (h : Hold) (lock : Int) (w : World) (t : Tab w b n h) :
    Calls Try.prog 20 #[.pointer (some ⟨b, 0, none⟩), .int .i64 lock] w fun e w' => e = .returned (.int .i64 (holderF n h lock)) ∧ w = w' := by
  cases hb : bad n 0 lock with
  | true =>
    have e0 : holderF n h lock = -1 := by unfold holderF; rw [hb]; rfl
    rw [e0]; clear e0
    go_enter Try.func20, Try.ntmps20
    go_wp2_with (go_at_call 28; refine (wrong_bad b n h 0 lock w t hb).mono ?_; rintro e w' ⟨rfl, rfl⟩)
    go_ret
    exact ⟨rfl, rfl⟩
  | false =>
    have e0 : holderF n h lock = h lock.toNat := by unfold holderF; rw [hb]; rfl
    rw [e0]; clear e0
    obtain ⟨h1, h2, h3⟩ := bad_false hb
    have hn := t.le
    obtain ⟨k, rfl⟩ := Int.eq_ofNat_of_zero_le h2
    have hc := t.ck (k := k) (by omega)
    go_enter Try.func20, Try.ntmps20
    go_wp2_with (go_at_call 28; refine (wrong_ok b n h 0 k w t hb).mono ?_; rintro e w' ⟨rfl, rfl⟩)
    go_ret
    exact ⟨ret_int (wrap_enc_sub (t.ok k)), rfl⟩

theorem slice_holders (b L n : Nat) (hL : L < n) (hn : n ≤ 64) (W : World) :
    (Instr.sliceAt 69 (.pointer (some ⟨b, 1, none⟩)) (some (.int .i64 (L : Int))) (some (.int .i64 (n : Int))) none).run Try.prog W = .ok (.slice (some ⟨b, 1 + L, none⟩) (n - L) (64 - L)) W := by
  have ha : Try.prog.arrayLen 69 = 64 := by kernel_rfl
  have he : Try.prog.elem 69 = 3 := by kernel_rfl
  have hu : Try.prog.underlying 69 = some (.array (Try.prog.arrayLen 69) (Try.prog.elem 69)) := by rw [ha, he]; exact Try.underlying69
  rw [run_sliceAt_array_lh W 69 _ hu .i64 .i64 _ _ (by omega) (by omega) (by rw [ha]; omega), he, ha, Try.sizeOf3]
  simp only [Result.andThen, slicedAt, Int.toNat_natCast]
  rw [if_neg (by omega), Nat.mul_one]
  congr 3
  unfold Addr.add; split <;> simp_all

theorem try_any (b n : Nat) (h : Hold) (who lock : Int) (w : World) (t : Tab w b n h) (hwho : who ≤ 9223372036854775807) :
    Calls Try.prog 30 #[.pointer (some ⟨b, 0, none⟩), .int .i64 who, .int .i64 lock] w fun e w' =>
      e = .returned (.tuple #[.bool (tryF n h who lock).1, .int .i64 (tryF n h who lock).2.1]) ∧ Tab w' b n (tryF n h who lock).2.2 ∧ Only w w' b := by
  cases hb : bad n who lock with
  | true =>
    have e0 : tryF n h who lock = (false, 2, h) := by unfold tryF; rw [hb]; rfl
    rw [e0]; clear e0
    go_enter Try.func30, Try.ntmps30
    go_wp2_with (go_at_call 28; refine (wrong_bad b n h who lock w t hb).mono ?_; rintro e w' ⟨rfl, rfl⟩)
    go_ret2
    exact ⟨rfl, t, only_drew0 _ _ 0⟩
  | false =>
    obtain ⟨h1, h2, h3⟩ := bad_false hb
    have hn := t.le
    obtain ⟨L, rfl⟩ := Int.eq_ofNat_of_zero_le h2
    have hL : L < n := by omega
    have c0 := t.c0
    have hsl := slice_holders b L n hL hn
    have hw1 := wrap_add_enc (x := who) (by omega) hwho
    go_enter Try.func30, Try.ntmps30
    go_wp2_with (go_at_call 28; refine (wrong_ok b n h who L w t hb).mono ?_; rintro e w' ⟨rfl, rfl⟩)
    go_quiet (fail)
    go_wp2
    go_loop [28] (fun i => ∃ k : Nat, k ≤ n - L ∧ i = .int .i64 k ∧ ∀ j, j < k → h (L + j) ≠ who) (fun i => n - L - (intOf i).toNat)
    case atStart => exact ⟨0, Nat.zero_le _, rfl, fun j hj => absurd hj (Nat.not_lt_zero j)⟩
    case round =>
      obtain ⟨k, hk, rfl, hne⟩ := hrel
      have Hne := Lib.hid hne; clear hne
      by_cases hlt : k < n - L
      · have hc := t.ck (k := L + k) (by omega)
        rw [show 1 + (L + k) = 1 + L + k by omega] at hc
        by_cases heq : h (L + k) = who
        · have e0 : tryF n h who L = (false, 50, h) := by
            unfold tryF; rw [hb, (above_iff n h who (L : Int).toNat).2 ⟨L + k, by omega, by omega, heq⟩]; rfl
          have E0 := Lib.hid e0; clear e0
          have hq : (enc (h (L + k)) == enc who) = true := by rw [heq]; exact beq_self_eq_true _
          clear heq
          go_wp2
          go_ret2
          rw [E0.out]
          exact ⟨rfl, t.drewN _, only_drew0 _ _ _⟩
        · have hq : (enc (h (L + k)) == enc who) = false := by
            rw [beq_eq_false_iff_ne]; intro e; exact heq (enc_inj (t.ok.i64 _) ⟨by omega, hwho⟩ e)
          go_wp2
          go_round
          case rel => exact ⟨k + 1, by omega, by go_num, fun j hj => by
            rcases Nat.lt_or_ge j k with hj' | hj'
            · exact Hne.out j hj'
            · obtain rfl : j = k := by omega
              exact heq⟩
          case measure => simp [intOf]; omega
      · have hab : above n h who (L : Int).toNat = false := (above_false n h who _).2 fun i h4 h5 => by
          have := Hne.out (i - L) (by omega)
          rwa [show L + (i - L) = i by omega] at this
        have hc := t.ck (k := L) (by omega)
        by_cases hf : h L = -1
        · have e0 : tryF n h who L = (true, 0, upd h L who) := by
            unfold tryF; rw [hb, hab]; simp [hf]
          have E0 := Lib.hid e0; clear e0
          have hz : (enc (h L) != 0) = false := by rw [hf]; decide
          have hfz := t.row.frozen (1 + L)
          clear hf
          go_wp2
          go_ret2
          rw [E0.out]
          exact ⟨rfl, (t.drewN _).set (by omega) (by omega) hwho, only_set (only_drew0 _ _ _) _ _⟩
        · have e0 : tryF n h who L = (false, 0, h) := by
            unfold tryF; rw [hb, hab]; simp [hf]
          have E0 := Lib.hid e0; clear e0
          have hz : (enc (h L) != 0) = true := by rw [bne_iff_ne]; intro e; exact hf ((enc_zero (t.ok.i64 _)).1 e)
          go_wp2
          go_ret2
          rw [E0.out]
          exact ⟨rfl, t.drewN _, only_drew0 _ _ _⟩

theorem free_any (b n : Nat) (h : Hold) (who lock : Int) (w : World) (t : Tab w b n h) (hwho : who ≤ 9223372036854775807) :
    Calls Try.prog 32 #[.pointer (some ⟨b, 0, none⟩), .int .i64 who, .int .i64 lock] w fun e w' =>
      e = .returned (.int .i64 (freeF n h who lock).1) ∧ Tab w' b n (freeF n h who lock).2 ∧ Only w w' b := by
  cases hb : bad n who lock with
  | true =>
    have e0 : freeF n h who lock = (2, h) := by unfold freeF; rw [hb]; rfl
    rw [e0]; clear e0
    go_enter Try.func32, Try.ntmps32
    go_wp2_with (go_at_call 28; refine (wrong_bad b n h who lock w t hb).mono ?_; rintro e w' ⟨rfl, rfl⟩)
    go_ret
    exact ⟨rfl, t, only_drew0 _ _ 0⟩
  | false =>
    obtain ⟨h1, h2, h3⟩ := bad_false hb
    have hn := t.le
    obtain ⟨L, rfl⟩ := Int.eq_ofNat_of_zero_le h2
    have hL : L < n := by omega
    have hw1 := wrap_add_enc (x := who) (by omega) hwho
    have hc := t.ck (k := L) (by omega)
    have hfz := t.row.frozen (1 + L)
    by_cases hf : h L = who
    · have e0 : freeF n h who L = (0, upd h L (-1)) := by unfold freeF; rw [hb]; simp [hf]
      rw [e0]; clear e0
      have hz : (enc (h L) != enc who) = false := by rw [hf]; simp
      clear hf
      go_enter Try.func32, Try.ntmps32
      go_wp2_with (go_at_call 28; refine (wrong_ok b n h who L w t hb).mono ?_; rintro e w' ⟨rfl, rfl⟩)
      go_ret
      exact ⟨rfl, t.set (v := -1) (by omega) (by omega) (by omega), only_set (only_drew0 _ _ 0) _ _⟩
    · have e0 : freeF n h who L = (7, h) := by unfold freeF; rw [hb]; simp [hf]
      rw [e0]; clear e0
      have hz : (enc (h L) != enc who) = true := by
        rw [bne_iff_ne]; intro e; exact hf (enc_inj (t.ok.i64 _) ⟨by omega, hwho⟩ e)
      go_enter Try.func32, Try.ntmps32
      go_wp2_with (go_at_call 28; refine (wrong_ok b n h who L w t hb).mono ?_; rintro e w' ⟨rfl, rfl⟩)
      go_ret
      exact ⟨rfl, t, only_drew0 _ _ 0⟩


def clampN (n : Int) : Nat := if n < 0 then 0 else if 64 < n then 64 else n.toNat
theorem clampN_le (n : Int) : clampN n ≤ 64 := by unfold clampN; split <;> (try split) <;> omega

/-- A table's zero value. -/
def zero50 : Array Value := Array.ofFn (n := 66) fun i => if i.val = 65 then .bool false else .int .i64 0
theorem run_zero50 (w : World) : (zeroValue 71).run Try.prog w = .ok (.agg zero50) w := by kernel_rfl
theorem size_zero50 : zero50.size = 66 := by unfold zero50; exact Array.size_ofFn
theorem zero50_ne : (zero50 = #[]) = False := by
  apply eq_false; intro h; have := size_zero50; rw [h] at this; simp at this
/-- The cells of a new table. -/
def newCells (n : Nat) : Array Value := (zero50.setIfInBounds 0 (.int .i64 n)).setIfInBounds 65 (.bool true)
theorem tab_new (w : World) (n : Nat) (hn : n ≤ 64) : Tab (w.alloc (.cells (newCells n) 71)) w.heap.size n free := by
  refine ⟨?_, hn, okH_free⟩
  have hs : (newCells n).size = 66 := by unfold newCells; rw [Array.size_setIfInBounds, Array.size_setIfInBounds, size_zero50]
  have h := World.rowIs_alloc w (newCells n) 71 (tabF n free) (fun i hi => by
    rw [hs] at hi
    unfold newCells tabF
    rw [Array.getElem?_setIfInBounds, Array.getElem?_setIfInBounds, Array.size_setIfInBounds, size_zero50]
    by_cases h65 : 65 = i
    · subst h65; simp
    · rw [if_neg h65]
      by_cases h0 : 0 = i
      · subst h0; simp
      · rw [if_neg h0, if_neg (by omega), if_neg (by omega)]
        unfold zero50
        rw [Array.getElem?_ofFn, dif_pos hi]
        simp only []
        rw [if_neg (by omega)]
        simp [free, enc])
  rwa [hs] at h

theorem new_any (n : Int) (w : World) :
    Calls Try.prog 15 #[.int .i64 n] w fun e w' => e = .returned (.pointer (some ⟨w.heap.size, 0, none⟩)) ∧ w' = w.alloc (.cells (newCells (clampN n)) 71) := by
  have hb := run_zero50
  have hs := size_zero50
  have hz := zero50_ne
  by_cases h0 : n < 0
  · have e0 : clampN n = 0 := by unfold clampN; rw [if_pos h0]
    rw [e0]; clear e0
    go_enter Try.func15, Try.ntmps15
    go_wp2
    go_ret
    exact ⟨rfl, rfl⟩
  · by_cases h1 : 64 < n
    · have e0 : clampN n = 64 := by unfold clampN; rw [if_neg h0, if_pos h1]
      rw [e0]; clear e0
      go_enter Try.func15, Try.ntmps15
      go_wp2
      go_ret
      exact ⟨rfl, rfl⟩
    · obtain ⟨k, rfl⟩ := Int.eq_ofNat_of_zero_le (by omega : 0 ≤ n)
      have e0 : clampN k = k := by unfold clampN; rw [if_neg h0, if_neg h1]; simp
      rw [e0]; clear e0
      go_enter Try.func15, Try.ntmps15
      go_wp2
      go_ret
      exact ⟨rfl, rfl⟩


end Go.Proofs.Ytjobdncikpnojaa.Lk
