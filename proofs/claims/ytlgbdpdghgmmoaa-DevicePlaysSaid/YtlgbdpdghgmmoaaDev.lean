/-
  A device in memory, and the walks of its methods: each does what the plain device does.
-/
import Derived.Test.YtlgbdpdghgmmoaaPage
import Derived.Deep.MidRow
import Derived.Deep.WholeRow
import Derived.Deep.OwnRows
namespace Go.Proofs.Ytlgbdpdghgmmoaa
open Go.RowKit

abbrev Slots := Nat → List Int
def updS (f : Slots) (k : Nat) (L : List Int) : Slots := fun j => if j = k then L else f j

/-- A device of n slots: D: its struct; B: its slots' bytes. -/
structure Dev (w : World) (D B n cap : Nat) (f : Slots) : Prop where
  d0 : w.cell? ⟨D, 0, none⟩ = some (.slice (some ⟨B, 0, none⟩) n cap)
  d1 : w.cell? ⟨D, 1, none⟩ = some (.bool true)
  ne : D ≠ B
  ltB : B < w.heap.size
  le : n ≤ 1024
  lec : n ≤ cap
  page : ∀ i, i < n → w.rangeAt B (i * 256) ((f i).map (Value.int .u8))
  there : ∀ i, i < n → w.there B (i * 256) 256
  len : ∀ i, i < n → (f i).length = 256
theorem Dev.ltD {w : World} {D B n cap : Nat} {f : Slots} (d : Dev w D B n cap f) : D < w.heap.size := World.block_lt_of_cell? w _ d.d0

/-- The world has new blocks, and block b may have turned. -/
abbrev Only (w w' : World) (b : Nat) : Prop := w.grownBy w' (some b)
theorem only_refl (w : World) (b : Nat) : Only w w b := ⟨rfl, rfl, rfl, Nat.le_refl _, fun _ _ _ => rfl⟩
theorem only_setCells (w : World) (b : Nat) : ∀ (vs : List Value) (o : Nat), Only w (w.setCells b o vs) b
  | [], _ => only_refl w b
  | v :: r, o => by
    have h := only_setCells (w.setCell ⟨b, o, none⟩ v) b r (o + 1)
    rw [World.setCells]
    exact ⟨h.os, h.tape, h.output, by simpa [World.setCell] using h.size, fun i hi hne => (h.block i (by simpa [World.setCell] using hi) hne).trans (Below.heap_setCell w _ v i (by rintro rfl; exact hne rfl))⟩

theorem size_setCells (b : Nat) : ∀ (vs : List Value) (o : Nat) (w : World), (w.setCells b o vs).heap.size = w.heap.size
  | [], _, _ => rfl
  | v :: r, o, w => by rw [World.setCells, size_setCells b r (o + 1)]; simp [World.setCell]
theorem Dev.write {w : World} {D B n cap : Nat} {f : Slots} (d : Dev w D B n cap f) {k : Nat} (hk : k < n) {L : List Int} (hL : L.length = 256) :
    Dev (w.setCells B (k * 256) (L.map (Value.int .u8))) D B n cap (updS f k L) where
  d0 := by rw [World.cell?_setCells_out B _ _ _ _ (fun e _ => absurd e d.ne)]; exact d.d0
  d1 := by rw [World.cell?_setCells_out B _ _ _ _ (fun e _ => absurd e d.ne)]; exact d.d1
  ne := d.ne
  ltB := by rw [size_setCells]; exact d.ltB
  le := d.le
  lec := d.lec
  page := fun i hi => by
    unfold updS
    by_cases e : i = k
    · subst e
      rw [if_pos rfl]
      exact World.rangeAt_setCells_same _ _ _ _ (by rw [List.length_map, hL]; exact d.there i hi)
    · rw [if_neg e]
      have h1 := d.len i hi
      refine World.rangeAt_setCells_apart (d.page i hi) _ _ _ (.inr ?_)
      rw [List.length_map, List.length_map, hL, h1]
      omega
  there := fun i hi => World.there_setCells (d.there i hi) _ _ _
  len := fun i hi => by
    unfold updS
    by_cases e : i = k
    · rw [if_pos e, hL]
    · rw [if_neg e]; exact d.len i hi

def badI (n : Nat) (i : Int) : Bool := decide (i < 0) || decide ((n : Int) ≤ i)
theorem badI_false {n : Nat} {i : Int} (h : badI n i = false) : 0 ≤ i ∧ i < n := by unfold badI at h; simp at h; omega
theorem badI_true {n : Nat} {i : Int} (h : badI n i = true) : i < 0 ∨ (0 ≤ i ∧ (n : Int) ≤ i) := by unfold badI at h; simp at h; omega

theorem at_ok {w : World} {D B n cap : Nat} {f : Slots} (d : Dev w D B n cap f) (i : Nat) (hi : i < n) :
    Calls Try.prog 19 #[.pointer (some ⟨D, 0, none⟩), .int .i64 (i : Int)] w fun e w' => e = .returned (.tuple #[.pointer (some ⟨B, i * 256, none⟩), .int .i64 0]) ∧ w = w' := by
  have d0 := d.d0
  have d1 := d.d1
  have hn := d.le
  clear d
  go_enter Try.func19, Try.ntmps19
  go_wp2
  go_ret2
  exact ⟨rfl, rfl⟩
theorem at_bad {w : World} {D B n cap : Nat} {f : Slots} (d : Dev w D B n cap f) (i : Int) (hb : badI n i = true) :
    Calls Try.prog 19 #[.pointer (some ⟨D, 0, none⟩), .int .i64 i] w fun e w' => e = .returned (.tuple #[.pointer none, .int .i64 2]) ∧ w = w' := by
  have d0 := d.d0
  have d1 := d.d1
  have hn := d.le
  clear d
  rcases badI_true hb with h | ⟨h1, h2⟩
  all_goals
    clear hb
    go_enter Try.func19, Try.ntmps19
    go_wp2
    go_ret2
    exact ⟨rfl, rfl⟩

/-- What a write answers, and leaves. -/
def writeF (n : Nat) (f : Slots) (i : Int) (L : List Int) (fail : Bool) : Int × Slots :=
  if badI n i then (2, f) else if L.length ≠ 256 then (2, f) else if fail then (40, f) else (0, updS f i.toNat L)

theorem info55 : (Try.prog.info? 55).map (·.size) = some 256 := by kernel_rfl

theorem run_arrayAt (a : Addr) (cp : Nat) (W : World) : (Instr.arrayAt 55 (.slice (some a) 256 cp)).run Try.prog W = .ok (.pointer (some a)) W := by kernel_rfl

set_option maxHeartbeats 400000 in
theorem write_any {w : World} {D B n cap : Nat} {f : Slots} (d : Dev w D B n cap f) (i : Int) {a : Option Addr} {len cp b off : Nat} {L : List Int} (o : BytesAt w a len cp b off L) (hlen : len ≤ 9223372036854775807) (fail : Bool) :
    Calls Try.prog 10 #[.pointer (some ⟨D, 0, none⟩), .int .i64 i, .slice a len cp, .bool fail] w fun e w' =>
      e = .returned (.int .i64 (writeF n f i L fail).1) ∧ Dev w' D B n cap (writeF n f i L fail).2 ∧ Only w w' B := by
  have hL := o.len_
  cases hb : badI n i with
  | true =>
    have e0 : writeF n f i L fail = (2, f) := by unfold writeF; rw [hb]; rfl
    rw [e0]; clear e0
    go_enter Try.func10, Try.ntmps10
    go_wp2_with fail
    refine (at_bad d i hb).mono ?_
    rintro e w' ⟨rfl, rfl⟩
    go_wp2_with fail
    go_ret
    exact ⟨rfl, d, only_refl _ _⟩
  | false =>
    obtain ⟨h1, h2⟩ := badI_false hb
    obtain ⟨k, rfl⟩ := Int.eq_ofNat_of_zero_le h1
    have hk : k < n := by omega
    by_cases h256 : len = 256
    · subst h256
      cases fail with
      | true =>
        have e0 : writeF n f k L true = (40, f) := by unfold writeF; rw [hb, hL]; rfl
        rw [e0]; clear e0
        go_enter Try.func10, Try.ntmps10
        go_wp2_with fail
        refine (at_ok d k hk).mono ?_
        rintro e w' ⟨rfl, rfl⟩
        go_wp2_with fail
        go_ret
        exact ⟨rfl, d, only_refl _ _⟩
      | false =>
        have e0 : writeF n f k L false = (0, updS f k L) := by unfold writeF; rw [hb, hL]; rfl
        rw [e0]; clear e0
        obtain rfl := o.at_ (by omega)
        have hr : w.rangeAt b off (L.map (Value.int .u8)) := fun j v hv => by
          have hj : j < L.length := by have := (List.getElem?_eq_some_iff.1 hv).1; simpa using this
          rw [o.cell j (by omega), ← hv]; simp [hj]
        have hi1 : (Try.prog.info? 55).map (·.size) = some (L.map (Value.int .u8)).length := by rw [List.length_map, hL]; exact info55
        have hi2 : (Try.prog.info? 55).map (·.size) = some (L.map (Value.int .u8)).toArray.size := by rw [List.size_toArray, List.length_map, hL]; exact info55
        have hth := d.there k hk
        have hth2 : w.there B (k * 256) (L.map (Value.int .u8)).toArray.size := by rw [List.size_toArray, List.length_map, hL]; exact hth
        have hone : (L.map (Value.int .u8)).toArray.all (·.oneCell') = true := all_oneCell_toArray (ints_oneCell .u8 L)
        have hat := run_arrayAt ⟨b, off, none⟩ cp
        have HL := Lib.hid hL
        have HR := Lib.hid hr
        have H1 := Lib.hid hi1
        have H2 := Lib.hid hi2
        have H3 := Lib.hid hth2
        have H4 := Lib.hid hone
        clear hL hr hi1 hi2 hth hth2 hone
        go_enter Try.func10, Try.ntmps10
        go_wp2_with fail
        refine (at_ok d k hk).mono ?_
        rintro e w' ⟨rfl, rfl⟩
        go_wp2_with (first
          | (refine wpList_load_mid rfl 55 (.tmp 29) rfl b off rfl (L.map (Value.int .u8)) _ HR.out Try.underlying55 rfl H1.out ?_)
          | (refine wpList_store_mid rfl 55 (.tmp 31) (.tmp 30) rfl B (k * 256) _ rfl rfl H3.out H2.out H4.out ?_))
        go_ret
        exact ⟨rfl, d.write hk HL.out, only_setCells _ _ _ _⟩
    · have e0 : writeF n f k L fail = (2, f) := by unfold writeF; rw [hb, hL]; simp [h256]
      rw [e0]; clear e0
      have q : ((len : Int) != 256) = true := by rw [bne_iff_ne]; omega
      go_enter Try.func10, Try.ntmps10
      go_wp2_with fail
      refine (at_ok d k hk).mono ?_
      rintro e w' ⟨rfl, rfl⟩
      go_wp2_with fail
      go_ret
      exact ⟨rfl, d, only_refl _ _⟩

theorem read_bad {w : World} {D B n cap : Nat} {f : Slots} (d : Dev w D B n cap f) (i : Int) (hb : badI n i = true) (fail : Bool) :
    Calls Try.prog 12 #[.pointer (some ⟨D, 0, none⟩), .int .i64 i, .bool fail] w fun e w' => e = .returned (.tuple #[.slice none 0 0, .int .i64 2]) ∧ w = w' := by
  go_enter Try.func12, Try.ntmps12
  go_wp2_with fail
  refine (at_bad d i hb).mono ?_
  rintro e w' ⟨rfl, rfl⟩
  go_wp2_with fail
  go_ret2
  exact ⟨rfl, rfl⟩
theorem read_fail {w : World} {D B n cap : Nat} {f : Slots} (d : Dev w D B n cap f) (k : Nat) (hk : k < n) :
    Calls Try.prog 12 #[.pointer (some ⟨D, 0, none⟩), .int .i64 (k : Int), .bool true] w fun e w' => e = .returned (.tuple #[.slice none 0 0, .int .i64 40]) ∧ w = w' := by
  go_enter Try.func12, Try.ntmps12
  go_wp2_with fail
  refine (at_ok d k hk).mono ?_
  rintro e w' ⟨rfl, rfl⟩
  go_wp2_with fail
  go_ret2
  exact ⟨rfl, rfl⟩

def zero55 : Array Value := Array.replicate 256 (.int .u8 0)
theorem run_zero55 (w : World) : (zeroValue 55).run Try.prog w = .ok (.agg zero55) w := by kernel_rfl
theorem size_zero55 : zero55.size = 256 := by unfold zero55; exact Array.size_replicate

theorem row_alloc (w : World) (L : List Int) (t : TypeId) : Row (w.alloc (.cells (L.map (Value.int .u8)).toArray t)) w.heap.size L :=
  ⟨by simp, fun i hi => by rw [World.cell?_alloc_new]; simp [hi]⟩

set_option maxHeartbeats 400000 in
theorem read_ok {w : World} {D B n cap : Nat} {f : Slots} (d : Dev w D B n cap f) (k : Nat) (hk : k < n) :
    Calls Try.prog 12 #[.pointer (some ⟨D, 0, none⟩), .int .i64 (k : Int), .bool false] w fun e w' =>
      e = .returned (.tuple #[.slice (some ⟨w.heap.size, 0, none⟩) 256 256, .int .i64 0]) ∧ Row w' w.heap.size (f k) ∧ (∀ i, w'.frozen? ⟨w.heap.size, i, none⟩ = false) ∧ Below w.heap.size w w' := by
  have hL := d.len k hk
  have hr := d.page k hk
  have hi1 : (Try.prog.info? 55).map (·.size) = some ((f k).map (Value.int .u8)).length := by rw [List.length_map, hL]; exact info55
  have hi2 : (Try.prog.info? 55).map (·.size) = some ((f k).map (Value.int .u8)).toArray.size := by rw [List.size_toArray, List.length_map, hL]; exact info55
  have hsz : zero55.size = ((f k).map (Value.int .u8)).toArray.size := by rw [size_zero55, List.size_toArray, List.length_map, hL]
  have hone : ((f k).map (Value.int .u8)).toArray.all (·.oneCell') = true := all_oneCell_toArray (ints_oneCell .u8 (f k))
  have hz := run_zero55
  have HR := Lib.hid hr
  have H1 := Lib.hid hi1
  have H2 := Lib.hid hi2
  have H3 := Lib.hid hsz
  have H4 := Lib.hid hone
  clear hL hr hi1 hi2 hsz hone
  go_enter Try.func12, Try.ntmps12
  go_wp2_with fail
  refine (at_ok d k hk).mono ?_
  rintro e w' ⟨rfl, rfl⟩
  go_wp2_with (first
    | (refine wpList_load_mid rfl 55 (.tmp 24) rfl B (k * 256) rfl ((f k).map (Value.int .u8)) _ HR.out Try.underlying55 rfl H1.out ?_)
    | (refine wpList_store_row rfl 55 (.tmp 10) (.tmp 25) rfl w.heap.size _ rfl rfl 55 zero55 (Deep.blk_alloc_new _ _) H2.out H3.out H4.out ?_))
  go_ret2
  rw [World.setRow_alloc_new]
  exact ⟨rfl, row_alloc _ _ _, fun i => World.frozen?_alloc_new _ _ _ _, (Below.refl _ _).alloc (Nat.le_refl _) _⟩

theorem slots_any {w : World} {D B n cap : Nat} {f : Slots} (d : Dev w D B n cap f) :
    Calls Try.prog 14 #[.pointer (some ⟨D, 0, none⟩)] w fun e w' => e = .returned (.int .i64 n) ∧ w = w' := by
  have d0 := d.d0
  go_enter Try.func14, Try.ntmps14
  go_wp2
  go_ret
  exact ⟨rfl, rfl⟩
end Go.Proofs.Ytlgbdpdghgmmoaa
