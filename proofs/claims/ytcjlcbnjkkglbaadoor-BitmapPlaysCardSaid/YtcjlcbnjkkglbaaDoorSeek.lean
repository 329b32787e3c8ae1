/-
  The walks of TrailingZeros64, seek, Free, Next.
-/
import Derived.Test.YtcjlcbnjkkglbaaDoorOps
import Derived.Shelf.Spec.TrailingZeros
namespace Go.Proofs.YtcjlcbnjkkglbaaDoor
open Go.RowKit
/-- The library's table. -/
def TabW (w : World) : Prop := TabAt 0 Lib.deBruijn64tab w
theorem TabW.below {w w' : World} (h : TabW w) (k : Below w.heap.size w w') (h0 : 0 < w.heap.size) : TabW w' := fun j hj => (k.cell (p := ⟨0, j, none⟩) h0).trans (h j hj)
set_option maxHeartbeats 1000000 in
theorem tz_core (x k idx : Nat) (w : World) (hx0 : ((x : Int) == 0) = false)
    (key : IntKind.u64.wrap (bits BinOp.and IntKind.u64 (x : Int) (IntKind.u64.wrap (-(x : Int))) * 285870213051353865) / 288230376151711744 = (idx : Int))
    (hi : idx < 64) (hk : k < 64) (hcell : w.cell? ⟨0, idx, none⟩ = some (.int .u8 k)) :
    Calls Tryd.prog 33 #[.int .u64 x] w fun e w' => e = .returned (.int .i64 k) ∧ w' = w := by
  go_enter Tryd.func33, Tryd.ntmps33
  go_wp2_with (simp only [key])
  go_ret
  exact ⟨rfl, rfl⟩
theorem tz_any (x : Nat) (hx : x < 18446744073709551616) (w : World) (hT : TabW w) :
    Calls Tryd.prog 33 #[.int .u64 x] w fun e w' => e = .returned (.int .i64 (Lib.ctz 64 x)) ∧ w' = w := by
  by_cases hx0 : x = 0
  · subst hx0
    go_enter Tryd.func33, Tryd.ntmps33
    go_wp2
    go_ret
    exact ⟨rfl, rfl⟩
  · obtain ⟨hlow, hk⟩ := Lib.lowest_bit 64 x hx0 hx
    obtain ⟨hi, htab⟩ := Lib.deBruijn64_at _ hk
    have hcell := hT _ hi
    rw [htab] at hcell
    exact tz_core x _ _ w (by simp; omega) (tz64_key x _ hx hx0 hlow) hi hk hcell
theorem xor_max (x : Nat) (hx : x < 18446744073709551616) : bits .xor .u64 IntKind.u64.max (x : Int) = ((18446744073709551615 - x : Nat) : Int) := by
  have h2 : (BitVec.ofInt 64 (x : Int)).toNat = x := by
    rw [BitVec.ofInt_natCast, BitVec.toNat_ofNat]; exact Nat.mod_eq_of_lt (by omega)
  show IntKind.u64.wrap ((BitVec.ofInt 64 IntKind.u64.max ^^^ BitVec.ofInt 64 (x : Int)).toNat : Int) = _
  rw [show BitVec.ofInt 64 IntKind.u64.max = BitVec.allOnes 64 by decide, BitVec.allOnes_xor, BitVec.toNat_not, h2, IntKind.wrap_u64, show 2 ^ 64 - 1 - x = 18446744073709551615 - x from rfl]
  omega
theorem flip_next (x : Nat) (w : World) : Calls Tryd.prog 27 #[.int .u64 x] w fun e w' => e = .returned (.int .u64 (flip false x)) ∧ w = w' := by
  go_enter Tryd.func27, Tryd.ntmps27
  go_wp2
  go_ret
  exact ⟨rfl, rfl⟩
theorem flip_free (x : Nat) (hx : x < 18446744073709551616) (w : World) : Calls Tryd.prog 28 #[.int .u64 x] w fun e w' => e = .returned (.int .u64 (flip true x)) ∧ w = w' := by
  have e := xor_max x hx
  go_enter Tryd.func28, Tryd.ntmps28
  go_wp2
  go_ret
  exact ⟨rfl, rfl⟩
def toldO (r : Option Nat) : Value := match r with
  | some i => .tuple #[.int .i64 (i : Int), .bool true]
  | none => .tuple #[.int .i64 0, .bool false]
/-- The word looked at: turned about, and cut at the place of the beginning. -/
def wordAt (fb : Bool) (Wd : Nat → Nat) (m k : Nat) : Nat := if k = m / 64 then cutW (m % 64) (flip fb (Wd k)) else flip fb (Wd k)
theorem wordAt_lt {fb : Bool} {Wd : Nat → Nat} (h : Small Wd) (m k : Nat) : wordAt fb Wd m k < 18446744073709551616 := by
  unfold wordAt
  split
  · exact Nat.lt_of_le_of_lt (cut_le _ _) (flip_lt (h k))
  · exact flip_lt (h k)
theorem wordAt_bit {fb : Bool} {Wd : Nat → Nat} (h : Small Wd) {m k j : Nat} (hk : m / 64 ≤ k) (hj : j < 64) : (wordAt fb Wd m k).testBit j = (decide (m ≤ 64 * k + j) && (bitW Wd (64 * k + j) != fb)) := by
  have e1 : (64 * k + j) / 64 = k := by omega
  have e2 : (64 * k + j) % 64 = j := by omega
  unfold wordAt bitW
  rw [e1, e2]
  by_cases hm : k = m / 64
  · rw [if_pos hm, cut_bit, flip_bit (h k) hj]
    have : decide (m % 64 ≤ j) = decide (m ≤ 64 * k + j) := by
      apply decide_eq_decide.2; omega
    rw [this]
  · rw [if_neg hm, flip_bit (h k) hj]
    have : decide (m ≤ 64 * k + j) = true := by simp; omega
    rw [this, Bool.true_and]
/-- No number from m on, ahead of the k-th word. -/
def Clear (P : Nat → Bool) (m N k : Nat) : Prop := ∀ j, m ≤ j → j < 64 * k → j < N → P j = false
theorem seek_here {fb : Bool} {Wd : Nat → Nat} (h : Small Wd) {m N k : Nat} (hk : m / 64 ≤ k) (hc : Clear (fun j => bitW Wd j != fb) m N k) (h0 : wordAt fb Wd m k ≠ 0) (hN : 64 * k + Lib.ctz 64 (wordAt fb Wd m k) < N) :
    Seek (fun j => bitW Wd j != fb) m N (some (64 * k + Lib.ctz 64 (wordAt fb Wd m k))) := by
  obtain ⟨h1, h2, h3⟩ := low_bit h0 (wordAt_lt h m k)
  generalize hz : Lib.ctz 64 (wordAt fb Wd m k) = z at *
  rw [wordAt_bit h hk h1, Bool.and_eq_true] at h2
  refine ⟨fun i e => ?_, fun e => by cases e⟩
  cases e
  refine ⟨of_decide_eq_true h2.1, hN, h2.2, fun j hj hl => ?_⟩
  by_cases h4 : j < 64 * k
  · exact hc j hj h4 (by omega)
  · have h5 := h3 (j - 64 * k) (by omega)
    rw [wordAt_bit h hk (by omega), show 64 * k + (j - 64 * k) = j by omega, decide_eq_true hj, Bool.true_and] at h5
    exact h5
theorem seek_on {fb : Bool} {Wd : Nat → Nat} (h : Small Wd) {m N k : Nat} (hk : m / 64 ≤ k) (hc : Clear (fun j => bitW Wd j != fb) m N k) (h0 : wordAt fb Wd m k = 0 ∨ N ≤ 64 * k + Lib.ctz 64 (wordAt fb Wd m k)) :
    Clear (fun j => bitW Wd j != fb) m N (k + 1) := by
  intro j hj hl hN
  by_cases h4 : j < 64 * k
  · exact hc j hj h4 hN
  · have h5 : (wordAt fb Wd m k).testBit (j - 64 * k) = false := by
      rcases h0 with h0 | h0
      · rw [h0, Nat.zero_testBit]
      · by_cases h6 : wordAt fb Wd m k = 0
        · rw [h6, Nat.zero_testBit]
        · exact (low_bit h6 (wordAt_lt h m k)).2.2 _ (by omega)
    rw [wordAt_bit h hk (by omega), show 64 * k + (j - 64 * k) = j by omega, decide_eq_true hj, Bool.true_and] at h5
    exact h5
end Go.Proofs.YtcjlcbnjkkglbaaDoor
