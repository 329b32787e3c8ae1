/-
  The walks of Has, Put, Take.
-/
import Derived.Test.YtcjlcbnjkkglbaaDoorTab
import Derived.StillTailTactics
namespace Go.Proofs.YtcjlcbnjkkglbaaDoor
open Go.RowKit
/-- Is the number in it? -/
def hasB (N : Nat) (Wd : Nat → Nat) (i : Int) : Bool := ownB N i && bitW Wd i.toNat
theorem ownB_true {N : Nat} {i : Int} (h : ownB N i = true) : ∃ k : Nat, i = (k : Int) ∧ k < N := by
  unfold ownB at h
  have := of_decide_eq_true h
  exact ⟨i.toNat, by omega, by omega⟩
theorem div64 (k : Nat) : ((k : Int)).tdiv 64 = ((k / 64 : Nat) : Int) := by rw [Int.tdiv_eq_ediv_of_nonneg (by omega)]; omega
theorem mod64 (k : Nat) : ((k : Int)).tmod 64 = ((k % 64 : Nat) : Int) := by rw [Int.tmod_eq_emod_of_nonneg (by omega)]; omega
theorem test_bit (x r : Nat) (hx : x < 18446744073709551616) : (bits .and .u64 ((x : Int) / 2 ^ r) 1 == 1) = x.testBit r := by
  have h1 : ((x : Int) / 2 ^ r) = ((x / 2 ^ r : Nat) : Int) := by rw [Int.natCast_ediv, Int.natCast_pow]; rfl
  have h2 : x / 2 ^ r < 18446744073709551616 := Nat.lt_of_le_of_lt (Nat.div_le_self _ _) hx
  have h3 := bits_and_u64_nat (x / 2 ^ r) 1 h2 (by decide)
  rw [h1]
  rw [show ((1 : Nat) : Int) = 1 from rfl] at h3
  rw [h3, Nat.and_one_is_mod, Nat.testBit_eq_decide_div_mod_eq]
  rcases Nat.mod_two_eq_zero_or_one (x / 2 ^ r) with h | h <;> rw [h] <;> rfl
section
variable {w w' : World} {base D c b N : Nat} {a : Option Addr} {Wd : Nat → Nat}
theorem has_any (s : BS w base D a c b N Wd) (i : Int) : Calls Tryd.prog 13 #[.pointer (some ⟨D, 0, none⟩), .int .i64 i] w fun e w' => e = .returned (.bool (hasB N Wd i)) ∧ w = w' := by
  cases ho : ownB N i with
  | false =>
    have e0 : hasB N Wd i = false := by unfold hasB; rw [ho]; rfl
    rw [e0]
    have HO := Lib.hid ho
    clear ho e0
    go_enter Tryd.func13, Tryd.ntmps13
    go_wp2_with (go_at_call 25; refine (own_any s i).mono ?_; rintro e w' ⟨rfl, rfl⟩; rw [HO.out])
    go_ret
    exact ⟨rfl, rfl⟩
  | true =>
    obtain ⟨k, rfl, hk⟩ := ownB_true ho
    have e0 : hasB N Wd k = (Wd (k / 64)).testBit (k % 64) := by unfold hasB; rw [ho]; rfl
    rw [e0]
    have HO := Lib.hid ho
    have hq : k / 64 < wordsOf N := by unfold wordsOf; omega
    have c0 := s.s0
    have c1 := s.word hq
    obtain rfl := s.pos (by omega)
    have hlc := s.lec
    have hle := s.le
    have hd := div64 k
    have hm := mod64 k
    have hr : k % 64 < 64 := Nat.mod_lt _ (by decide)
    have hb := test_bit (Wd (k / 64)) (k % 64) (s.sm _)
    have hw : wordsOf N ≤ 1024 := by unfold wordsOf; omega
    generalize hqq : k / 64 = q at *
    generalize hrr : k % 64 = r at *
    generalize wordsOf N = K at *
    clear ho e0
    go_enter Tryd.func13, Tryd.ntmps13
    go_wp2_with (go_at_call 25; refine (own_any s k).mono ?_; rintro e w' ⟨rfl, rfl⟩; rw [HO.out])
    go_ret
    exact ⟨rfl, rfl⟩

def putE (N : Nat) (Wd : Nat → Nat) (i : Int) : Int := if ownB N i then (if hasB N Wd i then 8 else 0) else 2
def takeE (N : Nat) (Wd : Nat → Nat) (i : Int) : Int := if ownB N i then (if hasB N Wd i then 0 else 7) else 2
theorem putW_eq (Wd : Nat → Nat) (k : Nat) : (fun j => if j = k / 64 then Wd (k / 64) ||| 2 ^ (k % 64) else Wd j) = putW Wd k := by
  funext j; unfold putW
  by_cases h : j = k / 64
  · rw [if_pos h, if_pos h, h]
  · rw [if_neg h, if_neg h]
theorem takeW_eq (Wd : Nat → Nat) (k : Nat) : (fun j => if j = k / 64 then Wd (k / 64) &&& (18446744073709551615 - 2 ^ (k % 64)) else Wd j) = takeW Wd k := by
  funext j; unfold takeW
  by_cases h : j = k / 64
  · rw [if_pos h, if_pos h, h]
  · rw [if_neg h, if_neg h]
theorem or_word (x r : Nat) (hx : x < 18446744073709551616) (hr : r < 64) : bits .or .u64 (x : Int) (IntKind.u64.wrap (2 ^ r)) = ((x ||| 2 ^ r : Nat) : Int) := by
  have h1 : 2 ^ r < 18446744073709551616 := Nat.pow_lt_pow_right (by decide) hr
  have h2 : IntKind.u64.wrap (2 ^ r) = ((2 ^ r : Nat) : Int) := by
    have e : (2 : Int) ^ r = ((2 ^ r : Nat) : Int) := by rw [Int.natCast_pow]; rfl
    rw [IntKind.wrap_u64, e]
    generalize 2 ^ r = p at h1 ⊢
    omega
  rw [h2, bits_or_u64_nat x _ hx h1]
theorem andNot_word (x r : Nat) (hx : x < 18446744073709551616) (hr : r < 64) : bits .andNot .u64 (x : Int) (IntKind.u64.wrap (2 ^ r)) = ((x &&& (18446744073709551615 - 2 ^ r) : Nat) : Int) := by
  have h1 : 2 ^ r < 18446744073709551616 := Nat.pow_lt_pow_right (by decide) hr
  have h2 : IntKind.u64.wrap (2 ^ r) = ((2 ^ r : Nat) : Int) := by
    have e : (2 : Int) ^ r = ((2 ^ r : Nat) : Int) := by rw [Int.natCast_pow]; rfl
    rw [IntKind.wrap_u64, e]
    generalize 2 ^ r = p at h1 ⊢
    omega
  rw [h2, bits_andNot_u64 x _ hx h1]

set_option maxHeartbeats 1000000 in
theorem put_any (s : BS w base D a c b N Wd) (i : Int) : Calls Tryd.prog 9 #[.pointer (some ⟨D, 0, none⟩), .int .i64 i] w fun e w' =>
    e = .returned (.int .i64 (putE N Wd i)) ∧ BS w' base D a c b N (if putE N Wd i = 0 then putW Wd i.toNat else Wd) ∧ Only w w' b := by
  cases ho : ownB N i with
  | false =>
    have e0 : putE N Wd i = 2 := by unfold putE; rw [ho]; rfl
    rw [e0]
    have HO := Lib.hid ho
    clear ho e0
    go_enter Tryd.func9, Tryd.ntmps9
    go_wp2_with (go_at_call 25; refine (own_any s i).mono ?_; rintro e w' ⟨rfl, rfl⟩; rw [HO.out])
    go_ret
    exact ⟨rfl, s, only_refl _ _⟩
  | true =>
    cases hh : hasB N Wd i with
    | true =>
      have e0 : putE N Wd i = 8 := by unfold putE; rw [ho, hh]; rfl
      rw [e0]
      have HO := Lib.hid ho
      have HH := Lib.hid hh
      clear ho hh e0
      go_enter Tryd.func9, Tryd.ntmps9
      go_wp2_with (first | (go_at_call 25; refine (own_any s i).mono ?_; rintro e w' ⟨rfl, rfl⟩; rw [HO.out]) | (go_at_call 13; refine (has_any s i).mono ?_; rintro e w' ⟨rfl, rfl⟩; rw [HH.out]))
      go_ret
      exact ⟨rfl, s, only_refl _ _⟩
    | false =>
      have e0 : putE N Wd i = 0 := by unfold putE; rw [ho, hh]; rfl
      rw [e0, if_pos rfl]
      have HO := Lib.hid ho
      have HH := Lib.hid hh
      obtain ⟨k, rfl, hk⟩ := ownB_true ho
      have hq : k / 64 < wordsOf N := by unfold wordsOf; omega
      have hpo := s.pos (by omega)
      subst hpo
      have c0 := s.s0
      have c1 := s.word hq
      have fz := s.own.frozen (by omega) (k / 64)
      have hlc := s.lec
      have hle := s.le
      have hd := div64 k
      have hm := mod64 k
      have hr : k % 64 < 64 := Nat.mod_lt _ (by decide)
      have hb := or_word (Wd (k / 64)) (k % 64) (s.sm _) hr
      have hw : wordsOf N ≤ 1024 := by unfold wordsOf; omega
      have HF := Lib.hid (show BS (w.drew.setCell ⟨b, k / 64, none⟩ (.int .u64 ((Wd (k / 64) ||| 2 ^ (k % 64) : Nat) : Int))) base D (some ⟨b, 0, none⟩) c b N (putW Wd k) from putW_eq Wd k ▸ ((s.below (show Below w.heap.size w w.drew from below_drewN (Below.refl _ _) 1)).put hq (Nat.or_lt_two_pow (n := 64) (s.sm _) (pow_lt k))))
      have HS := Lib.hid (fun (w1 : World) (h1 : w1 = w) => h1 ▸ s)
      clear ho hh e0
      have s' := HS
      go_enter Tryd.func9, Tryd.ntmps9
      generalize hqq : k / 64 = q at *
      generalize hrr : k % 64 = r at *
      generalize hKK : wordsOf N = K at *
      have hwq : IntKind.i64.wrap ((q : Nat) : Int) = (q : Int) := by rw [IntKind.wrap_i64]; omega
      have hwr : IntKind.i64.wrap ((r : Nat) : Int) = (r : Int) := by rw [IntKind.wrap_i64]; omega
      have hq0 : (0 : Int) ≤ (q : Int) := by omega
      have hq1 : (q : Int) < (K : Int) := by omega
      have hr0 : (0 : Int) ≤ (r : Int) := by omega
      have hr1 : (r : Int) ≤ 64 := by omega
      go_wp2_with (first | (go_at_call 25; refine (own_any s k).mono ?_; rintro e w' ⟨rfl, rfl⟩; rw [HO.out]) | (go_at_call 13; refine (has_any s k).mono ?_; rintro e w' ⟨rfl, rfl⟩; rw [HH.out]))
      go_still_tail 13, (by kernel_rfl)
      change wpList _ _ _ _ _ w.drew
      go_wp2
      go_ret
      exact ⟨rfl, HF.out, only_drew (only_set (only_refl _ _) _ _)⟩

set_option maxHeartbeats 1000000 in
theorem take_any (s : BS w base D a c b N Wd) (i : Int) : Calls Tryd.prog 14 #[.pointer (some ⟨D, 0, none⟩), .int .i64 i] w fun e w' =>
    e = .returned (.int .i64 (takeE N Wd i)) ∧ BS w' base D a c b N (if takeE N Wd i = 0 then takeW Wd i.toNat else Wd) ∧ Only w w' b := by
  cases ho : ownB N i with
  | false =>
    have e0 : takeE N Wd i = 2 := by unfold takeE; rw [ho]; rfl
    rw [e0]
    have HO := Lib.hid ho
    clear ho e0
    go_enter Tryd.func14, Tryd.ntmps14
    go_wp2_with (go_at_call 25; refine (own_any s i).mono ?_; rintro e w' ⟨rfl, rfl⟩; rw [HO.out])
    go_ret
    exact ⟨rfl, s, only_refl _ _⟩
  | true =>
    cases hh : hasB N Wd i with
    | false =>
      have e0 : takeE N Wd i = 7 := by unfold takeE; rw [ho, hh]; rfl
      rw [e0]
      have HO := Lib.hid ho
      have HH := Lib.hid hh
      clear ho hh e0
      go_enter Tryd.func14, Tryd.ntmps14
      go_wp2_with (first | (go_at_call 25; refine (own_any s i).mono ?_; rintro e w' ⟨rfl, rfl⟩; rw [HO.out]) | (go_at_call 13; refine (has_any s i).mono ?_; rintro e w' ⟨rfl, rfl⟩; rw [HH.out]))
      go_ret
      exact ⟨rfl, s, only_refl _ _⟩
    | true =>
      have e0 : takeE N Wd i = 0 := by unfold takeE; rw [ho, hh]; rfl
      rw [e0, if_pos rfl]
      have HO := Lib.hid ho
      have HH := Lib.hid hh
      obtain ⟨k, rfl, hk⟩ := ownB_true ho
      have hq : k / 64 < wordsOf N := by unfold wordsOf; omega
      have hpo := s.pos (by omega)
      subst hpo
      have c0 := s.s0
      have c1 := s.word hq
      have fz := s.own.frozen (by omega) (k / 64)
      have hlc := s.lec
      have hle := s.le
      have hd := div64 k
      have hm := mod64 k
      have hr : k % 64 < 64 := Nat.mod_lt _ (by decide)
      have hb := andNot_word (Wd (k / 64)) (k % 64) (s.sm _) hr
      have hw : wordsOf N ≤ 1024 := by unfold wordsOf; omega
      have HF := Lib.hid (show BS (w.drew.setCell ⟨b, k / 64, none⟩ (.int .u64 ((Wd (k / 64) &&& (18446744073709551615 - 2 ^ (k % 64)) : Nat) : Int))) base D (some ⟨b, 0, none⟩) c b N (takeW Wd k) from takeW_eq Wd k ▸ ((s.below (show Below w.heap.size w w.drew from below_drewN (Below.refl _ _) 1)).put hq (Nat.lt_of_le_of_lt Nat.and_le_left (s.sm _))))
      have HS := Lib.hid (fun (w1 : World) (h1 : w1 = w) => h1 ▸ s)
      clear ho hh e0
      have s' := HS
      go_enter Tryd.func14, Tryd.ntmps14
      generalize hqq : k / 64 = q at *
      generalize hrr : k % 64 = r at *
      generalize hKK : wordsOf N = K at *
      have hwq : IntKind.i64.wrap ((q : Nat) : Int) = (q : Int) := by rw [IntKind.wrap_i64]; omega
      have hwr : IntKind.i64.wrap ((r : Nat) : Int) = (r : Int) := by rw [IntKind.wrap_i64]; omega
      have hq0 : (0 : Int) ≤ (q : Int) := by omega
      have hq1 : (q : Int) < (K : Int) := by omega
      have hr0 : (0 : Int) ≤ (r : Int) := by omega
      have hr1 : (r : Int) ≤ 64 := by omega
      go_wp2_with (first | (go_at_call 25; refine (own_any s k).mono ?_; rintro e w' ⟨rfl, rfl⟩; rw [HO.out]) | (go_at_call 13; refine (has_any s k).mono ?_; rintro e w' ⟨rfl, rfl⟩; rw [HH.out]))
      go_still_tail 13, (by kernel_rfl)
      change wpList _ _ _ _ _ w.drew
      go_wp2
      go_ret
      exact ⟨rfl, HF.out, only_drew (only_set (only_refl _ _) _ _)⟩
end
end Go.Proofs.YtcjlcbnjkkglbaaDoor
