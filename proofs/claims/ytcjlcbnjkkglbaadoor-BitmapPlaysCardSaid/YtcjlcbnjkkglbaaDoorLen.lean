/-
  The walks of OnesCount64, Len.
-/
import Derived.Test.YtcjlcbnjkkglbaaDoorIter
import Derived.Test.YtcjlcbnjkkglbaaDoorPop
namespace Go.Proofs.YtcjlcbnjkkglbaaDoor
open Go.RowKit
theorem half_div (x d : Nat) : ((x : Int) / (d : Int)) = ((x / d : Nat) : Int) := by rw [Int.natCast_ediv]
theorem and_lt (x m : Nat) (hm : m < 9223372036854775808) : x &&& m < 9223372036854775808 := Nat.lt_of_le_of_lt Nat.and_le_right hm
theorem wrap_nat (n : Nat) (h : n < 18446744073709551616) : IntKind.u64.wrap (n : Int) = (n : Int) := by rw [IntKind.wrap_u64]; omega
theorem ones_core (x x1 x2 z x4 x5 x6 r : Nat) (w : World)
    (e1 : IntKind.u64.wrap (bits .and .u64 ((x : Int) / 2) 6148914691236517205 + bits .and .u64 (x : Int) 6148914691236517205) = (x1 : Int))
    (e2 : IntKind.u64.wrap (bits .and .u64 ((x1 : Int) / 4) 3689348814741910323 + bits .and .u64 (x1 : Int) 3689348814741910323) = (x2 : Int))
    (e3 : bits .and .u64 (IntKind.u64.wrap ((x2 : Int) / 16 + (x2 : Int))) 1085102592571150095 = (z : Int))
    (e4 : IntKind.u64.wrap ((z : Int) + (z : Int) / 256) = (x4 : Int)) (e5 : IntKind.u64.wrap ((x4 : Int) + (x4 : Int) / 65536) = (x5 : Int)) (e6 : IntKind.u64.wrap ((x5 : Int) + (x5 : Int) / 4294967296) = (x6 : Int))
    (e7 : IntKind.i64.wrap (x6 : Int) = (x6 : Int)) (e8 : bits .and .i64 (x6 : Int) 127 = (r : Int)) :
    Calls Tryd.prog 32 #[.int .u64 x] w fun e w' => e = .returned (.int .i64 r) ∧ w = w' := by
  go_enter Tryd.func32, Tryd.ntmps32
  go_wp2
  go_ret
  exact ⟨rfl, rfl⟩
theorem ones_any (x : Nat) (hx : x < 18446744073709551616) (w : World) : Calls Tryd.prog 32 #[.int .u64 x] w fun e w' => e = .returned (.int .i64 (pop 64 x)) ∧ w = w' := by
  have hs := swar (x := x) hx
  have hl := last_sum x
  simp only at hs hl
  obtain ⟨x1, h1⟩ : ∃ x1, x1 = ((x / 2) &&& 6148914691236517205) + (x &&& 6148914691236517205) := ⟨_, rfl⟩
  rw [← h1] at hs
  obtain ⟨x2, h2⟩ : ∃ x2, x2 = ((x1 / 4) &&& 3689348814741910323) + (x1 &&& 3689348814741910323) := ⟨_, rfl⟩
  rw [← h2] at hs
  obtain ⟨z, hz⟩ : ∃ z, z = byt (pop 8) 8 x := ⟨_, rfl⟩
  rw [← hz] at hs hl
  obtain ⟨x4, h4⟩ : ∃ x4, x4 = z + z / 256 := ⟨_, rfl⟩
  rw [← h4] at hl
  obtain ⟨x5, h5⟩ : ∃ x5, x5 = x4 + x4 / 65536 := ⟨_, rfl⟩
  rw [← h5] at hl
  obtain ⟨x6, h6⟩ : ∃ x6, x6 = x5 + x5 / 4294967296 := ⟨_, rfl⟩
  rw [← h6] at hl
  obtain ⟨l1, l2, l3, l4, l5⟩ := hl
  have b1 : (x / 2) &&& 6148914691236517205 ≤ 6148914691236517205 := Nat.and_le_right
  have b2 : x &&& 6148914691236517205 ≤ 6148914691236517205 := Nat.and_le_right
  have b3 : (x1 / 4) &&& 3689348814741910323 ≤ 3689348814741910323 := Nat.and_le_right
  have b4 : x1 &&& 3689348814741910323 ≤ 3689348814741910323 := Nat.and_le_right
  refine ones_core x x1 x2 z x4 x5 x6 (pop 64 x) w ?_ ?_ ?_ ?_ ?_ ?_ ?_ ?_
  · have q1 := bits_and_u64_nat (x / 2) 6148914691236517205 (by omega) (by omega)
    have q2 := bits_and_u64_nat x 6148914691236517205 hx (by omega)
    rw [Int.natCast_ediv] at q1
    have q1' : bits .and .u64 ((x : Int) / 2) 6148914691236517205 = (((x / 2) &&& 6148914691236517205 : Nat) : Int) := q1
    have q2' : bits .and .u64 (x : Int) 6148914691236517205 = ((x &&& 6148914691236517205 : Nat) : Int) := q2
    rw [q1', q2', ← Int.natCast_add, ← h1, wrap_nat _ (by omega)]
  · have q1 := bits_and_u64_nat (x1 / 4) 3689348814741910323 (by omega) (by omega)
    have q2 := bits_and_u64_nat x1 3689348814741910323 (by omega) (by omega)
    rw [Int.natCast_ediv] at q1
    have q1' : bits .and .u64 ((x1 : Int) / 4) 3689348814741910323 = (((x1 / 4) &&& 3689348814741910323 : Nat) : Int) := q1
    have q2' : bits .and .u64 (x1 : Int) 3689348814741910323 = ((x1 &&& 3689348814741910323 : Nat) : Int) := q2
    rw [q1', q2', ← Int.natCast_add, ← h2, wrap_nat _ (by omega)]
  · have e : ((x2 : Int) / 16 + (x2 : Int)) = ((x2 / 16 + x2 : Nat) : Int) := by omega
    rw [e, wrap_nat _ (by omega)]
    have q := bits_and_u64_nat (x2 / 16 + x2) 1085102592571150095 (by omega) (by omega)
    have q' : bits .and .u64 ((x2 / 16 + x2 : Nat) : Int) 1085102592571150095 = (((x2 / 16 + x2) &&& 1085102592571150095 : Nat) : Int) := q
    rw [q', hs]
  · rw [show ((z : Int) + (z : Int) / 256) = ((x4 : Nat) : Int) by omega, wrap_nat _ (by omega)]
  · rw [show ((x4 : Int) + (x4 : Int) / 65536) = ((x5 : Nat) : Int) by omega, wrap_nat _ (by omega)]
  · rw [show ((x5 : Int) + (x5 : Int) / 4294967296) = ((x6 : Nat) : Int) by omega, wrap_nat _ (by omega)]
  · rw [IntKind.wrap_i64]; omega
  · have g1 : (BitVec.ofInt 64 (x6 : Int)).toNat = x6 := by
      rw [BitVec.ofInt_natCast, BitVec.toNat_ofNat]; exact Nat.mod_eq_of_lt (by omega)
    have g2 : x6 &&& 127 = x6 % 128 := Nat.and_two_pow_sub_one_eq_mod x6 7
    show IntKind.i64.wrap ((BitVec.ofInt 64 (x6 : Int) &&& BitVec.ofInt 64 127).toNat : Int) = _
    rw [BitVec.toNat_and, g1, show (BitVec.ofInt 64 127).toNat = 127 by decide, g2, l1, IntKind.wrap_i64]
    have := pop_le 64 x
    omega
theorem pop_word {Wd : Nat → Nat} (k : Nat) : pop 64 (Wd k) = cntP (bitW Wd) (64 * k) 64 := by
  unfold pop
  refine cntP_congr fun j hj => ?_
  unfold bitW
  rw [show (64 * k + j) / 64 = k by omega, show (64 * k + j) % 64 = j by omega, Nat.zero_add]
section
variable {w w' : World} {base D c b N : Nat} {a : Option Addr} {Wd : Nat → Nat}
set_option maxHeartbeats 1000000 in
theorem len_words (s : BS w base D a c b N Wd) : Calls Tryd.prog 24 #[.pointer (some ⟨D, 0, none⟩)] w fun e w' => e = .returned (.int .i64 (cntP (bitW Wd) 0 (64 * wordsOf N))) ∧ w = w' := by
  have s0 := s.s0
  have hK := s.base'
  have hlc := s.lec
  obtain ⟨K, hKe⟩ : ∃ K, wordsOf N = K := ⟨_, rfl⟩
  have HKE := Lib.hid hKe
  rw [hKe] at s0 hK hlc ⊢
  clear hKe
  go_enter Tryd.func24, Tryd.ntmps24
  go_wp2_with fail
  go_loopw [2, 12] (fun n v wr => ∃ k : Nat, k ≤ K ∧ v = .int .i64 k ∧ n = .int .i64 (cntP (bitW Wd) 0 (64 * k)) ∧ w = wr) (fun _ v _ => K - (intOf v).toNat)
  case atStart => exact ⟨0, Nat.zero_le _, rfl, rfl, rfl⟩
  case round =>
    obtain ⟨k, hk, rfl, rfl, rfl⟩ := hrel
    have hle := cntP_le (bitW Wd) 0 (64 * k)
    by_cases hlt : k < K
    · have c1 := s.word (k := k) (by rw [HKE.out]; exact hlt)
      have hpos := s.own.at_ (by rw [HKE.out]; omega)
      subst hpos
      have E := Lib.hid (show (cntP (bitW Wd) 0 (64 * (k + 1)) : Int) = (cntP (bitW Wd) 0 (64 * k) : Int) + (pop 64 (Wd k) : Int) by
        rw [show 64 * (k + 1) = 64 * k + 64 by omega, cntP_add, Nat.zero_add, pop_word]; simp)
      have hp := pop_le 64 (Wd k)
      generalize cntP (bitW Wd) 0 (64 * k) = q at *
      have hq : q ≤ 65536 := by omega
      go_wp2_with fail
      refine (ones_any (Wd k) (s.sm k) w).mono ?_
      rintro e w' ⟨rfl, rfl⟩
      go_wp2_with fail
      go_roundw
      case rel => exact ⟨k + 1, by omega, by go_num, by rw [E.out], trivial⟩
      case measure => simp [intOf]; omega
    · have hkK : k = K := by omega
      subst hkK
      have d2 : decide (k < k) = false := by simp
      go_wp2_with fail
      go_ret
      exact ⟨rfl, rfl⟩
end
/-- No number is in it from N on. -/
def Clean (Wd : Nat → Nat) (N : Nat) : Prop := ∀ j, N ≤ j → bitW Wd j = false
theorem cntP_none {P : Nat → Bool} {a : Nat} : ∀ {n : Nat}, (∀ j, j < n → P (a + j) = false) → cntP P a n = 0
  | 0, _ => rfl
  | n + 1, h => by rw [cntP_succ, cntP_none (n := n) (fun j hj => h j (by omega)), h n (by omega)]; rfl
theorem cnt_clean {Wd : Nat → Nat} {N : Nat} (h : Clean Wd N) : cntP (bitW Wd) 0 (64 * wordsOf N) = cntP (bitW Wd) 0 N := by
  have hle : N ≤ 64 * wordsOf N := by unfold wordsOf; omega
  obtain ⟨d, hd⟩ : ∃ d, 64 * wordsOf N = N + d := ⟨64 * wordsOf N - N, by omega⟩
  rw [hd, cntP_add, cntP_none (P := bitW Wd) (n := d) (fun j _ => h _ (by omega))]
  omega
theorem clean_zero (N : Nat) : Clean k0 N := fun j _ => by unfold bitW k0; exact Nat.zero_testBit _
theorem clean_put {Wd : Nat → Nat} {N : Nat} (h : Clean Wd N) (i : Int) : Clean (if putE N Wd i = 0 then putW Wd i.toNat else Wd) N := by
  split
  · rename_i he
    have ho : ownB N i = true := by
      unfold putE at he
      split at he
      · assumption
      · cases he
    obtain ⟨k, rfl, hk⟩ := ownB_true ho
    intro j hj
    rw [bit_put, h j hj, Int.toNat_natCast]
    simp; omega
  · exact h
theorem clean_take {Wd : Nat → Nat} {N : Nat} (h : Clean Wd N) (i : Int) : Clean (if takeE N Wd i = 0 then takeW Wd i.toNat else Wd) N := by
  split
  · intro j hj
    rw [bit_take, h j hj]
    simp
  · exact h
end Go.Proofs.YtcjlcbnjkkglbaaDoor
