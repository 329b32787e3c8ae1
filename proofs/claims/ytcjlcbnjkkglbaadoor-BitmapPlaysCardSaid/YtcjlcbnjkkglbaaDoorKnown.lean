/-
  A set that the call made; the walk of 'known'.
-/
import Derived.Test.YtcjlcbnjkkglbaaDoorRun
namespace Go.Proofs.YtcjlcbnjkkglbaaDoor
open Go.RowKit
/-- A set that the call made, and nothing turned that was there. -/
structure StB (w0 w : World) (D b N : Nat) (Wd : Nat → Nat) : Prop where
  bs : ∃ c, BS w w0.heap.size D (some ⟨b, 0, none⟩) c b N Wd
  below : Below w0.heap.size w0 w
  own : w0.heap.size ≤ D
  tab : TabW w
  pos : 0 < w0.heap.size
section
variable {w0 w w' : World} {D b N : Nat} {Wd : Nat → Nat}
theorem StB.geb (s : StB w0 w D b N Wd) : w0.heap.size ≤ b ∧ b < w.heap.size := by
  obtain ⟨c, h⟩ := s.bs
  exact (h.own.blk _ rfl).2
theorem StB.ltD (s : StB w0 w D b N Wd) : D < w.heap.size := by
  obtain ⟨c, h⟩ := s.bs
  exact h.srow.lt
theorem StB.neb (s : StB w0 w D b N Wd) : b ≠ D := by
  obtain ⟨c, h⟩ := s.bs
  exact h.ne (by simp)
theorem StB.le (s : StB w0 w D b N Wd) : N ≤ 65536 := by
  obtain ⟨c, h⟩ := s.bs
  exact h.le
theorem TabW.only {w w' : World} (h : TabW w) {d : Nat} (k : Only w w' d) (h0 : 0 < d) (hd : d ≤ w.heap.size) : TabW w' := fun j hj =>
  (World.cell?_of_block (a := ⟨0, j, none⟩) (k.block 0 (by omega) (fun e => by cases e; omega))).trans (h j hj)
theorem StB.belowW (s : StB w0 w D b N Wd) (k : Below w.heap.size w w') : StB w0 w' D b N Wd := by
  obtain ⟨c, h⟩ := s.bs
  exact ⟨⟨c, h.below k⟩, below_then s.below k, s.own, s.tab.below k (by have := s.pos; have := s.below.size; omega), s.pos⟩
theorem StB.turned (s : StB w0 w D b N Wd) {c : Nat} {Wd' : Nat → Nat} (h : BS w' w0.heap.size D (some ⟨b, 0, none⟩) c b N Wd') (k : Only w w' b) : StB w0 w' D b N Wd' := by
  have hb := s.geb
  have h0 := s.pos
  exact ⟨⟨c, h⟩, below_only s.below k hb.1, s.own, s.tab.only k (by omega) (by omega), s.pos⟩
theorem new_st {w0 w : World} (hb : Below w0.heap.size w0 w) (h0 : 0 < w0.heap.size) (hT : TabW w0) (n : Int) : Calls Tryd.prog 8 #[.int .i64 n] w fun e w' => e = .returned (.pointer (some ⟨w.heap.size + 1, 0, none⟩)) ∧ StB w0 w' (w.heap.size + 1) w.heap.size (clampN n) (fun _ => 0) ∧ Below w.heap.size w w' := by
  refine (new_any n w).mono ?_
  rintro e w' ⟨rfl, rfl⟩
  have hs := hb.size
  exact ⟨rfl, ⟨⟨_, bs_new w hs _ (clampN_le n)⟩, below_then hb (below_newW _ _), by omega, (hT.below hb h0).below (below_newW _ _) (by omega), h0⟩, below_newW _ _⟩
theorem put_st (s : StB w0 w D b N Wd) (i : Int) {e : Int} (he : putE N Wd i = e) {Wd' : Nat → Nat} (hW : (if e = 0 then putW Wd i.toNat else Wd) = Wd') : Calls Tryd.prog 9 #[.pointer (some ⟨D, 0, none⟩), .int .i64 i] w fun r w' =>
    r = .returned (.int .i64 e) ∧ StB w0 w' D b N Wd' ∧ Only w w' b := by
  obtain ⟨c, h⟩ := s.bs
  have := put_any h i
  rw [he, hW] at this
  exact this.mono fun _ _ ⟨h1, h2, h3⟩ => ⟨h1, s.turned h2 h3, h3⟩
theorem take_st (s : StB w0 w D b N Wd) (i : Int) {e : Int} (he : takeE N Wd i = e) {Wd' : Nat → Nat} (hW : (if e = 0 then takeW Wd i.toNat else Wd) = Wd') : Calls Tryd.prog 14 #[.pointer (some ⟨D, 0, none⟩), .int .i64 i] w fun r w' =>
    r = .returned (.int .i64 e) ∧ StB w0 w' D b N Wd' ∧ Only w w' b := by
  obtain ⟨c, h⟩ := s.bs
  have := take_any h i
  rw [he, hW] at this
  exact this.mono fun _ _ ⟨h1, h2, h3⟩ => ⟨h1, s.turned h2 h3, h3⟩
theorem has_st (s : StB w0 w D b N Wd) (i : Int) {x : Bool} (hx : hasB N Wd i = x) : Calls Tryd.prog 13 #[.pointer (some ⟨D, 0, none⟩), .int .i64 i] w fun e w' => e = .returned (.bool x) ∧ w = w' := by
  obtain ⟨c, h⟩ := s.bs
  rw [← hx]
  exact has_any h i
theorem size_st (s : StB w0 w D b N Wd) : Calls Tryd.prog 11 #[.pointer (some ⟨D, 0, none⟩)] w fun e w' => e = .returned (.int .i64 N) ∧ w = w' := by
  obtain ⟨c, h⟩ := s.bs
  exact size_any h
theorem free_st (s : StB w0 w D b N Wd) (m : Int) (hm : m ≤ 9223372036854775807) : Calls Tryd.prog 15 #[.pointer (some ⟨D, 0, none⟩), .int .i64 m] w fun e w' => ∃ r, FreeS Wd m.toNat N r ∧ e = .returned (toldO r) ∧ w = w' := by
  obtain ⟨c, h⟩ := s.bs
  exact free_any h s.tab m hm
theorem next_st (s : StB w0 w D b N Wd) (m : Int) (hm : m ≤ 9223372036854775807) : Calls Tryd.prog 12 #[.pointer (some ⟨D, 0, none⟩), .int .i64 m] w fun e w' => ∃ r, NextS Wd m.toNat N r ∧ e = .returned (toldO r) ∧ w = w' := by
  obtain ⟨c, h⟩ := s.bs
  exact next_any h s.tab m hm
theorem run_st (s : StB w0 w D b N Wd) (m many : Int) (hm : m ≤ 9223372036854775807) : Calls Tryd.prog 10 #[.pointer (some ⟨D, 0, none⟩), .int .i64 m, .int .i64 many] w fun e w' => ∃ r, RunI (bitW Wd) m many N r ∧ e = .returned (toldO r) ∧ w = w' := by
  obtain ⟨c, h⟩ := s.bs
  exact run_any h s.tab m many hm
end
theorem seek_eqSome {P : Nat → Bool} {m N i : Nat} {r : Option Nat} (h : Seek P m N r) (h1 : m ≤ i) (h2 : i < N) (h3 : P i = true) (h4 : ∀ j, m ≤ j → j < i → P j = false) : r = some i := by
  cases r with
  | none => have := h.none rfl i h1 h2; rw [h3] at this; cases this
  | some k =>
    obtain ⟨a, b, c, d⟩ := h.some k rfl
    rcases Nat.lt_trichotomy i k with h5 | h5 | h5
    · have := d i h1 h5; rw [h3] at this; cases this
    · rw [h5]
    · have := h4 k a h5; rw [c] at this; cases this
theorem runS_eqSome {P : Nat → Bool} {m many N i : Nat} {r : Option Nat} (h : RunS P m many N r) (h1 : m ≤ i) (h2 : i + many ≤ N) (h3 : ∀ k, k < many → P (i + k) = false) (h4 : ∀ j, m ≤ j → j < i → ∃ k, k < many ∧ P (j + k) = true) : r = some i := by
  cases r with
  | none => obtain ⟨k, hk, hp⟩ := h.none rfl i h1 h2; rw [h3 k hk] at hp; cases hp
  | some z =>
    obtain ⟨a, b, c, d⟩ := h.some z rfl
    rcases Nat.lt_trichotomy i z with h5 | h5 | h5
    · obtain ⟨k, hk, hp⟩ := d i h1 h5; rw [h3 k hk] at hp; cases hp
    · rw [h5]
    · obtain ⟨k, hk, hp⟩ := h4 z a h5; rw [c k hk] at hp; cases hp
theorem runS_eqNone {P : Nat → Bool} {m many N : Nat} {r : Option Nat} (h : RunS P m many N r) (h1 : ∀ j, m ≤ j → j + many ≤ N → ∃ k, k < many ∧ P (j + k) = true) : r = none := by
  cases r with
  | none => rfl
  | some z =>
    obtain ⟨a, b, c, d⟩ := h.some z rfl
    obtain ⟨k, hk, hp⟩ := h1 z a b
    rw [c k hk] at hp; cases hp
def k0 : Nat → Nat := fun _ => 0
def k1 : Nat → Nat := putW k0 0
def k2 : Nat → Nat := putW k1 1
def k3 : Nat → Nat := putW k2 4
theorem k3_bits (j : Nat) (hj : j < 8) : bitW k3 j = (j == 0 || j == 1 || j == 4) := by
  rcases (show j = 0 ∨ j = 1 ∨ j = 2 ∨ j = 3 ∨ j = 4 ∨ j = 5 ∨ j = 6 ∨ j = 7 by omega) with rfl | rfl | rfl | rfl | rfl | rfl | rfl | rfl <;> kernel_rfl
set_option maxHeartbeats 1000000 in
theorem known_any (w : World) (h0 : 0 < w.heap.size) (hT : TabW w) : Calls Tryd.prog 7 #[] w fun e w' => e = .returned (.bool true) ∧ Below w.heap.size w w' := by
  have E1 := Lib.hid (show putE 8 k0 0 = 0 by kernel_rfl)
  have E2 := Lib.hid (show putE 8 k1 1 = 0 by kernel_rfl)
  have E3 := Lib.hid (show putE 8 k2 4 = 0 by kernel_rfl)
  have E4 := Lib.hid (show putE 8 k3 4 = 8 by kernel_rfl)
  have hF : ∀ r, FreeS k3 0 8 r → r = some 2 := fun r h => seek_eqSome h (by omega) (by omega) (by rw [k3_bits _ (by omega)]; rfl) (fun j h1 h2 => by
    rcases (show j = 0 ∨ j = 1 by omega) with rfl | rfl <;> (rw [k3_bits _ (by omega)]; rfl))
  have hN : ∀ r, NextS k3 2 8 r → r = some 4 := fun r h => seek_eqSome h (by omega) (by omega) (by rw [k3_bits _ (by omega)]; rfl) (fun j h1 h2 => by
    rcases (show j = 2 ∨ j = 3 by omega) with rfl | rfl <;> (rw [k3_bits _ (by omega)]; rfl))
  have hR2 : ∀ r, RunI (bitW k3) 0 2 8 r → r = some 2 := fun r h => runS_eqSome (h.run (by omega)) (by omega) (by show 2 + 2 ≤ 8; omega) (fun k hk => by
    rcases (show k = 0 ∨ k = 1 by have : k < 2 := hk; omega) with rfl | rfl <;> (rw [k3_bits _ (by omega)]; rfl)) (fun j h1 h2 => ⟨0, by show 0 < 2; omega, by
    rcases (show j = 0 ∨ j = 1 by omega) with rfl | rfl <;> (rw [k3_bits _ (by omega)]; rfl)⟩)
  have hR4 : ∀ r, RunI (bitW k3) 0 4 8 r → r = none := fun r h => runS_eqNone (h.run (by omega)) (fun j h1 h2 => by
    have h3 : j + 4 ≤ 8 := h2
    rcases (show j = 0 ∨ j = 1 ∨ j = 2 ∨ j = 3 ∨ j = 4 by omega) with rfl | rfl | rfl | rfl | rfl
    · exact ⟨0, by show 0 < 4; omega, by rw [k3_bits _ (by omega)]; rfl⟩
    · exact ⟨0, by show 0 < 4; omega, by rw [k3_bits _ (by omega)]; rfl⟩
    · exact ⟨2, by show 2 < 4; omega, by rw [k3_bits _ (by omega)]; rfl⟩
    · exact ⟨1, by show 1 < 4; omega, by rw [k3_bits _ (by omega)]; rfl⟩
    · exact ⟨0, by show 0 < 4; omega, by rw [k3_bits _ (by omega)]; rfl⟩)
  have HF := Lib.hid hF
  have HN := Lib.hid hN
  have HR2 := Lib.hid hR2
  have HR4 := Lib.hid hR4
  clear hF hN hR2 hR4
  go_enter Tryd.func7, Tryd.ntmps7
  go_wp2_with fail
  refine (new_st (Below.refl _ w) h0 hT 8).mono ?_
  rintro e w1 ⟨rfl, s1, _⟩
  rw [show clampN 8 = 8 from rfl, show (fun _ : Nat => 0) = k0 from rfl] at s1
  generalize w.heap.size + 1 = D at *
  go_wp2_with fail
  refine (put_st s1 0 E1.out (Wd' := k1) rfl).mono ?_
  rintro e w2 ⟨rfl, s2, _⟩
  go_wp2_with fail
  refine (put_st s2 1 E2.out (Wd' := k2) rfl).mono ?_
  rintro e w3 ⟨rfl, s3, _⟩
  go_wp2_with fail
  refine (put_st s3 4 E3.out (Wd' := k3) rfl).mono ?_
  rintro e w4 ⟨rfl, s4, _⟩
  go_wp2_with fail
  refine (put_st s4 4 E4.out (Wd' := k3) rfl).mono ?_
  rintro e w5 ⟨rfl, s5, _⟩
  go_wp2_with fail
  refine (free_st s5 0 (by omega)).mono ?_
  rintro e w6 ⟨r, hr, rfl, rfl⟩
  rw [HF.out r hr]
  unfold toldO
  clear hr
  go_wp2_with fail
  refine (next_st s5 2 (by omega)).mono ?_
  rintro e w6 ⟨r, hr, rfl, rfl⟩
  rw [HN.out r hr]
  unfold toldO
  clear hr
  go_wp2_with fail
  refine (run_st s5 0 2 (by omega)).mono ?_
  rintro e w6 ⟨r, hr, rfl, rfl⟩
  rw [HR2.out r hr]
  unfold toldO
  clear hr
  go_wp2_with fail
  refine (run_st s5 0 4 (by omega)).mono ?_
  rintro e w6 ⟨r, hr, rfl, rfl⟩
  rw [HR4.out r hr]
  unfold toldO
  clear hr
  go_wp2_with fail
  go_ret
  exact ⟨rfl, s5.below⟩
end Go.Proofs.YtcjlcbnjkkglbaaDoor
