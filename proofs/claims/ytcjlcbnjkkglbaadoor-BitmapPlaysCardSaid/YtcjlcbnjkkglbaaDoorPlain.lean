/-
  A set of numbers, a bit each: the words, the bits, what is sought in them. No program in sight.
-/
import Derived.Laws.Bits64b
import Derived.Lib.TrailingZeros
namespace Go.Proofs.YtcjlcbnjkkglbaaDoor

theorem bits_andNot_u64 (a b : Nat) (ha : a < 18446744073709551616) (hb : b < 18446744073709551616) :
    bits .andNot .u64 (a : Int) (b : Int) = ((a &&& (18446744073709551615 - b) : Nat) : Int) := by
  have hx : a &&& (18446744073709551615 - b) < 2 ^ 64 := Nat.and_lt_two_pow _ (by omega)
  have h1 : (BitVec.ofInt 64 (a : Int)).toNat = a := by
    rw [BitVec.ofInt_natCast, BitVec.toNat_ofNat]; exact Nat.mod_eq_of_lt (by omega)
  have h2 : (BitVec.ofInt 64 (b : Int)).toNat = b := by
    rw [BitVec.ofInt_natCast, BitVec.toNat_ofNat]; exact Nat.mod_eq_of_lt (by omega)
  show IntKind.u64.wrap ((BitVec.ofInt 64 (a : Int) &&& ~~~BitVec.ofInt 64 (b : Int)).toNat : Int) = _
  rw [BitVec.toNat_and, BitVec.toNat_not, h1, h2, IntKind.wrap_u64, show 2 ^ 64 - 1 - b = 18446744073709551615 - b from rfl]
  omega

/-- The i-th bit of the words. -/
def bitW (Wd : Nat → Nat) (i : Nat) : Bool := (Wd (i / 64)).testBit (i % 64)
/-- No word is greater than 64 bits. -/
def Small (Wd : Nat → Nat) : Prop := ∀ k, Wd k < 18446744073709551616
def putW (Wd : Nat → Nat) (i : Nat) : Nat → Nat := fun k => if k = i / 64 then Wd k ||| 2 ^ (i % 64) else Wd k
def takeW (Wd : Nat → Nat) (i : Nat) : Nat → Nat := fun k => if k = i / 64 then Wd k &&& (18446744073709551615 - 2 ^ (i % 64)) else Wd k
theorem pow_lt (i : Nat) : 2 ^ (i % 64) < 18446744073709551616 := Nat.pow_lt_pow_right (by decide) (Nat.mod_lt i (by decide) : i % 64 < 64)
theorem small_put {Wd : Nat → Nat} (h : Small Wd) (i : Nat) : Small (putW Wd i) := fun k => by
  unfold putW
  split
  · exact Nat.or_lt_two_pow (n := 64) (h k) (pow_lt i)
  · exact h k
theorem small_take {Wd : Nat → Nat} (h : Small Wd) (i : Nat) : Small (takeW Wd i) := fun k => by
  unfold takeW
  split
  · exact Nat.lt_of_le_of_lt Nat.and_le_left (h k)
  · exact h k
theorem at_same {i j : Nat} (h : j / 64 = i / 64) : j % 64 = i % 64 ↔ j = i := by omega
theorem bit_put (Wd : Nat → Nat) (i j : Nat) : bitW (putW Wd i) j = (decide (j = i) || bitW Wd j) := by
  unfold bitW putW
  split
  · rename_i h
    rw [Nat.testBit_or, Nat.testBit_two_pow]
    have := at_same h
    by_cases e : j = i
    · subst e; simp
    · have e' : ¬ i % 64 = j % 64 := fun x => e (this.1 x.symm)
      simp [e, e']
  · rename_i h
    have e : j ≠ i := fun x => h (by rw [x])
    simp [e]
theorem bit_take (Wd : Nat → Nat) (i j : Nat) : bitW (takeW Wd i) j = (!decide (j = i) && bitW Wd j) := by
  unfold bitW takeW
  split
  · rename_i h
    have hp := pow_lt i
    have h2 : (18446744073709551615 - 2 ^ (i % 64)).testBit (j % 64) = (decide (j % 64 < 64) && !(2 ^ (i % 64)).testBit (j % 64)) := by
      have := Nat.testBit_two_pow_sub_succ (n := 64) (x := 2 ^ (i % 64)) hp (j % 64)
      rw [show 2 ^ 64 - (2 ^ (i % 64) + 1) = 18446744073709551615 - 2 ^ (i % 64) by omega] at this
      exact this
    rw [Nat.testBit_and, h2, Nat.testBit_two_pow]
    have := at_same h
    have hl : j % 64 < 64 := Nat.mod_lt _ (by decide)
    by_cases e : j = i
    · subst e; simp
    · have e' : ¬ i % 64 = j % 64 := fun x => e (this.1 x.symm)
      simp [e, e', hl]
  · rename_i h
    have e : j ≠ i := fun x => h (by rw [x])
    simp [e]
/-- The words turned about. -/
def flip (b : Bool) (x : Nat) : Nat := if b then 18446744073709551615 - x else x
theorem flip_lt {b : Bool} {x : Nat} (h : x < 18446744073709551616) : flip b x < 18446744073709551616 := by unfold flip; split <;> omega
theorem flip_bit {b : Bool} {x j : Nat} (h : x < 18446744073709551616) (hj : j < 64) : (flip b x).testBit j = (x.testBit j != b) := by
  unfold flip
  cases b
  · simp
  · have := Nat.testBit_two_pow_sub_succ (n := 64) (x := x) h j
    rw [show 2 ^ 64 - (x + 1) = 18446744073709551615 - x by omega] at this
    simp only [if_pos, this, hj]
    cases x.testBit j <;> rfl
/-- A word without its lowest bits. -/
def cutW (r x : Nat) : Nat := x / 2 ^ r * 2 ^ r
theorem cut_le (r x : Nat) : cutW r x ≤ x := Nat.div_mul_le_self _ _
theorem cut_bit (r x j : Nat) : (cutW r x).testBit j = (decide (r ≤ j) && x.testBit j) := by
  unfold cutW
  rw [Nat.mul_comm, Nat.testBit_two_pow_mul, Nat.testBit_div_two_pow]
  by_cases h : r ≤ j
  · rw [show j - r + r = j by omega]
  · simp [h]
/-- The lowest bit of a word. -/
theorem low_bit {x : Nat} (h0 : x ≠ 0) (h : x < 18446744073709551616) : Lib.ctz 64 x < 64 ∧ x.testBit (Lib.ctz 64 x) = true ∧ ∀ j, j < Lib.ctz 64 x → x.testBit j = false := by
  have e : Lib.ctz 64 x = Lib.ctzFrom 64 x := by unfold Lib.ctz; rw [if_neg h0]
  obtain ⟨m, hm, hk⟩ := Lib.ctzFrom_spec 64 x (by omega) h
  rw [e]
  generalize Lib.ctzFrom 64 x = k at *
  refine ⟨hk, ?_, fun j hj => ?_⟩
  · rw [hm, Nat.testBit_two_pow_mul]
    simp [Nat.testBit_zero]
  · rw [hm, Nat.testBit_two_pow_mul]
    simp; omega
theorem zero_bits {x : Nat} (h : ∀ j, j < 64 → x.testBit j = false) (hx : x < 18446744073709551616) : x = 0 := by
  apply Classical.byContradiction
  intro h0
  obtain ⟨a, b, _⟩ := low_bit h0 hx
  rw [h _ a] at b
  cases b

/-- The least number from a place on that is (or, turned about, is not) in it. -/
structure Seek (P : Nat → Bool) (from' n : Nat) (r : Option Nat) : Prop where
  some : ∀ i, r = some i → from' ≤ i ∧ i < n ∧ P i = true ∧ ∀ j, from' ≤ j → j < i → P j = false
  none : r = none → ∀ j, from' ≤ j → j < n → P j = false
/-- The first of so many that are none of them in it. -/
structure RunS (P : Nat → Bool) (from' many n : Nat) (r : Option Nat) : Prop where
  some : ∀ i, r = some i → from' ≤ i ∧ i + many ≤ n ∧ (∀ k, k < many → P (i + k) = false) ∧ ∀ j, from' ≤ j → j < i → ∃ k, k < many ∧ P (j + k) = true
  none : r = none → ∀ j, from' ≤ j → j + many ≤ n → ∃ k, k < many ∧ P (j + k) = true
end Go.Proofs.YtcjlcbnjkkglbaaDoor
