/-
  The walk of the law SlotsAgain.
-/
import Derived.Test.YtljgpiljfigojaaKnown
namespace Go.Proofs.Ytljgpiljfigojaa
open Go.RowKit

theorem usedL_all : ∀ {n : Nat} {f : Sl}, (∀ k, k < n → (f k).1 ≠ 0) → (usedL n f).length = n
  | 0, _, _ => rfl
  | n + 1, f, h => by rw [usedL_succ, if_neg (h n (by omega)), List.length_append, usedL_all (fun k hk => h k (by omega))]; rfl
theorem usedL_none : ∀ {n : Nat} {f : Sl}, (∀ k, k < n → (f k).1 = 0) → (usedL n f).length = 0
  | 0, _, _ => rfl
  | n + 1, f, h => by rw [usedL_succ, if_pos (h n (by omega)), List.length_append, usedL_none (fun k hk => h k (by omega))]; rfl
def takenF (i : Nat) : Sl := fun k => if k < i then (1 + (k : Int) % 8, (k : Int)) else (0, 0)
def freedB (n r i k : Nat) : Bool := (List.range i).any fun j => (j + r) % n == k
def freedF (n r i : Nat) : Sl := fun k => if freedB n r i k then (0, 0) else (1 + (k : Int) % 8, (k : Int))
theorem freedB_iff (n r i k : Nat) : freedB n r i k = true ↔ ∃ j, j < i ∧ (j + r) % n = k := by
  unfold freedB
  rw [List.any_eq_true]
  constructor
  · rintro ⟨j, hj, hq⟩; exact ⟨j, by simpa using hj, by simpa using hq⟩
  · rintro ⟨j, hj, hq⟩; exact ⟨j, by simpa using hj, by simpa using hq⟩
theorem mod_ne {n r j k : Nat} (hjk : j < k) (hk : k < n) : (j + r) % n ≠ (k + r) % n := by
  intro h
  have h1 := Nat.div_add_mod (j + r) n
  have h2 := Nat.div_add_mod (k + r) n
  rw [h] at h1
  have h3 : n * ((k + r) / n) = n * ((j + r) / n) + (k - j) := by omega
  have h4 : n ∣ (k - j) := by
    refine (Nat.dvd_add_right (⟨(j + r) / n, rfl⟩ : n ∣ n * ((j + r) / n))).1 ?_
    rw [← h3]; exact ⟨_, rfl⟩
  have := Nat.le_of_dvd (by omega) h4
  omega
theorem mod_hit {n r k : Nat} (hk : k < n) : ∃ j, j < n ∧ (j + r) % n = k := by
  have hr : r % n < n := Nat.mod_lt _ (by omega)
  refine ⟨(k + (n - r % n)) % n, Nat.mod_lt _ (by omega), ?_⟩
  have h1 : ((k + (n - r % n)) % n + r) % n = (k + (n - r % n) + r % n) % n := by simp [Nat.add_mod]
  rw [h1, show k + (n - r % n) + r % n = k + n by omega, Nat.add_mod_right, Nat.mod_eq_of_lt hk]
theorem takenF_succ {k j : Nat} (hne : j ≠ k) : takenF (k + 1) j = takenF k j := by
  unfold takenF
  by_cases h : j < k
  · rw [if_pos h, if_pos (by omega)]
  · rw [if_neg h, if_neg (by omega)]
theorem freedF_succ {n r k j : Nat} (hne : (k + r) % n ≠ j) : freedF n r (k + 1) j = freedF n r k j := by
  have e : freedB n r (k + 1) j = freedB n r k j := by
    rw [Bool.eq_iff_iff, freedB_iff, freedB_iff]
    constructor
    · rintro ⟨i, hi, hq⟩
      rcases Nat.lt_or_ge i k with h | h
      · exact ⟨i, h, hq⟩
      · obtain rfl : i = k := by omega
        exact absurd hq hne
    · rintro ⟨i, hi, hq⟩; exact ⟨i, by omega, hq⟩
  unfold freedF
  rw [e]

set_option maxRecDepth 100000 in
set_option maxHeartbeats 2000000 in
theorem again_any (n turn : Int) (w : World) : Calls Try.prog 3 #[.int .i64 n, .int .i64 turn] w fun e w' => e = .returned (.bool true) ∧ Below w.heap.size w w' := by
  by_cases h0 : n < 0
  · go_enter Try.func3, Try.ntmps3
    go_wp2_with fail
    refine (known_any w).mono ?_
    rintro e w' ⟨rfl, hb⟩
    go_wp2_with fail
    go_ret
    exact ⟨rfl, hb⟩
  by_cases h1 : 200 < n
  · go_enter Try.func3, Try.ntmps3
    go_wp2_with fail
    refine (known_any w).mono ?_
    rintro e w' ⟨rfl, hb⟩
    go_wp2_with fail
    go_ret
    exact ⟨rfl, hb⟩
  obtain ⟨N, rfl⟩ := Int.eq_ofNat_of_zero_le (show 0 ≤ n by omega)
  have hN : N ≤ 200 := by omega
  clear h0 h1
  obtain ⟨r, hr, hT⟩ : ∃ r : Nat, r < 200 ∧ (IntKind.u64.wrap turn).tmod 200 = (r : Int) := by
    refine ⟨((IntKind.u64.wrap turn).tmod 200).toNat, ?_, ?_⟩ <;> rw [IntKind.wrap_u64, Int.tmod_eq_emod_of_nonneg (by omega)] <;> omega
  have d1 : decide ((N : Int) < 0) = false := by simp
  have d2 : decide ((200 : Int) < (N : Int)) = false := by simp; omega
  have d3 : decide (200 < N) = false := by simp; omega
  go_enter Try.func3, Try.ntmps3
  go_wp2_with fail
  refine (new_st (Below.refl _ w) N (clampN_nat (by omega))).mono ?_
  rintro e w1 ⟨rfl, s1⟩
  generalize w.heap.size + 1 = S at *
  generalize hB : w.heap.size = B at s1
  have HB := Lib.hid hB; clear hB
  go_wp2_with fail
  go_loopw [21] (fun i wr => ∃ k : Nat, k ≤ 2 ∧ i = .int .i64 k ∧ ∃ f : Sl, St w wr S B N N f ∧ ∀ j, j < N → f j = (0, 0)) (fun i _ => 2 - (intOf i).toNat)
  case atStart => exact ⟨0, by omega, rfl, _, s1, fun _ _ => rfl⟩
  case round =>
    clear s1
    obtain ⟨q, hq, rfl, f, s, hf⟩ := hrel
    have Hf := Lib.hid hf; clear hf
    by_cases hlt : q < 2
    · have hq2 : decide ((q : Int) < 2) = true := by simp; omega
      go_wp2_with fail
      obtain ⟨wo, rfl⟩ : ∃ wo : World, wo = wr := ⟨_, rfl⟩
      go_loopw [24] (fun i wr => ∃ k : Nat, k ≤ N ∧ i = .int .i64 k ∧ ∃ f : Sl, St w wr S B N N f ∧ ∀ j, j < N → f j = takenF k j) (fun i _ => N - (intOf i).toNat)
      case atStart => exact ⟨0, by omega, rfl, f, s, fun j hj => by rw [Hf.out j hj]; rfl⟩
      case round =>
        clear s Hf
        obtain ⟨k, hk, rfl, f, s, hf⟩ := hrel
        have Hf := Lib.hid hf; clear hf
        by_cases hkn : k < N
        · have e1 : takeF N f (1 + (k : Int) % 8) (k : Int) = ((k : Int), 0, updS f k (1 + (k : Int) % 8, (k : Int))) :=
            takeF_at (by unfold mayB; simp; omega) hkn (by rw [Hf.out k hkn]; unfold takenF; rw [if_neg (by omega)]) (fun j hj => by rw [Hf.out j (by omega)]; unfold takenF; rw [if_pos hj]; simp; omega)
          have E1 := Lib.hid e1; clear e1
          go_wp2_with fail
          refine (take_st s (1 + (k : Int) % 8) (k : Int) E1.out).mono ?_
          rintro e w2 ⟨rfl, s2⟩
          go_wp2_with fail
          have hrel2 : ∀ j, j < N → updS f k (1 + (k : Int) % 8, (k : Int)) j = takenF (k + 1) j := fun j hj => by
            by_cases e : j = k
            · subst e; rw [updS_same]; unfold takenF; rw [if_pos (by omega)]
            · rw [updS_other _ _ e, Hf.out j hj, takenF_succ e]
          go_roundw
          case rel => first | exact ⟨k + 1, by omega, by go_num, _, s2, hrel2⟩ | ((repeat apply Exists.intro); exact ⟨⟨k + 1, by omega, by go_num, _, s2, hrel2⟩, rfl⟩)
          case measure => simp [intOf]; omega
        · obtain rfl : k = N := by omega
          have hne : ∀ j, j < k → (f j).1 ≠ 0 := fun j hj => by rw [Hf.out j hj]; unfold takenF; rw [if_pos hj]; simp; omega
          have E1 := Lib.hid (takeF_full (pid := 1) (page := 1) rfl hne)
          have E2 := Lib.hid (usedL_all hne)
          clear hne
          go_wp2_with fail
          refine (take_st s 1 1 E1.out).mono ?_
          rintro e w2 ⟨rfl, s2⟩
          go_wp2_with fail
          refine (used_st s2 E2.out).mono ?_
          rintro e w3 ⟨rfl, s3⟩
          go_wp2_with fail
          go_loopw [58] (fun i wr => ∃ j : Nat, j ≤ k ∧ i = .int .i64 j ∧ ∃ f : Sl, St w wr S B k k f ∧ ∀ x, x < k → f x = freedF k r j x) (fun i _ => k - (intOf i).toNat)
          case atStart => exact ⟨0, by omega, rfl, f, s3, fun x hx => by rw [Hf.out x hx]; unfold takenF freedF; rw [if_pos hx]; rfl⟩
          case round =>
            clear s s2 s3 E1 E2 Hf
            obtain ⟨j, hj, rfl, f, s, hf⟩ := hrel
            have Hf := Lib.hid hf; clear hf
            by_cases hjk : j < k
            · obtain ⟨x, hx⟩ : ∃ x, (j + r) % k = x := ⟨_, rfl⟩
              have hxk : x < k := by rw [← hx]; exact Nat.mod_lt _ (by omega)
              have hm : ((j : Int) + (r : Int)).tmod (k : Int) = (x : Int) := by rw [← hx, Int.tmod_eq_emod_of_nonneg (by omega), Int.natCast_emod, Int.natCast_add]
              have hno : freedB k r j x = false := by
                rw [← Bool.not_eq_true, freedB_iff]
                rintro ⟨i, hi, hq⟩
                exact mod_ne hi hjk (hq.trans hx.symm)
              have e1 : freeF k f (x : Int) = (0, updS f x (0, 0)) := freeF_at hxk (by rw [Hf.out x hxk]; unfold freedF; rw [hno]; simp; omega)
              have E1 := Lib.hid e1
              have HX := Lib.hid hx
              have hk0 : ((k : Int) == 0) = false := beq_eq_false_iff_ne.2 (by omega)
              clear e1 hno hx
              go_wp2_with fail
              refine (free_st s (x : Int) E1.out).mono ?_
              rintro e w4 ⟨rfl, s4⟩
              go_wp2_with fail
              go_roundw
              case rel => exact ⟨j + 1, by omega, by go_num, _, s4, fun y hy => by
                by_cases e : y = x
                · subst e
                  rw [updS_same]
                  unfold freedF
                  rw [(freedB_iff k r (j + 1) y).2 ⟨j, by omega, HX.out⟩]; rfl
                · rw [updS_other _ _ e, Hf.out y hy, freedF_succ (fun e' => e (by rw [← e', HX.out]))]⟩
              case measure => simp [intOf]; omega
            · obtain rfl : j = k := by omega
              have hz : ∀ x, x < j → f x = (0, 0) := fun x hx => by
                rw [Hf.out x hx]; unfold freedF
                rw [(freedB_iff j r j x).2 (mod_hit hx)]; rfl
              have E1 := Lib.hid (usedL_none (n := j) (f := f) (fun x hx => by rw [hz x hx]))
              have Hz := Lib.hid hz; clear hz
              go_wp2_with fail
              refine (used_st s E1.out).mono ?_
              rintro e w5 ⟨rfl, s5⟩
              go_wp2_with fail
              go_roundw
              case rel => exact ⟨q + 1, by omega, by go_num, f, s5, Hz.out⟩
              case measure => simp [intOf]; omega
    · go_wp2_with fail
      refine (known_then s.below).mono ?_
      rintro e w' ⟨rfl, hb⟩
      go_wp2_with fail
      go_ret
      exact ⟨rfl, hb⟩
end Go.Proofs.Ytljgpiljfigojaa
