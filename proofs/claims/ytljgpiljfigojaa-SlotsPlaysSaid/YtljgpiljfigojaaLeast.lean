/-
  The walk of the law SlotsLeast.
-/
import Derived.Test.YtljgpiljfigojaaAgain
import Derived.Test.YtljgpiljfigojaaOpsI
import Derived.StillTailTactics
namespace Go.Proofs.Ytljgpiljfigojaa
open Go.RowKit

/-- The least free slot from m on; -1: there is none. -/
def leastFrom (n : Nat) (f : Sl) (m : Nat) : Int := if m < n ∧ leastI n (fun k => if k < m then (1, 0) else f k) ≠ -1 then leastI n (fun k => if k < m then (1, 0) else f k) else -1

theorem ownerF_nat {n k : Nat} {f : Sl} (hk : k < n) : ownerF n f (k : Int) = f k := by unfold ownerF; rw [badI_nat hk]; simp
theorem usedL_upd {n k : Nat} {f : Sl} (hk : k < n) (h0 : (f k).1 = 0) (v : Int × Int) (hv : v.1 ≠ 0) : (usedL n (updS f k v)).length = (usedL n f).length + 1 := by
  induction n with
  | zero => omega
  | succ n ih =>
    rw [usedL_succ, usedL_succ, List.length_append, List.length_append]
    by_cases e : k = n
    · subst e
      have h1 : usedL k (updS f k v) = usedL k f := by
        unfold usedL
        apply List.filter_congr
        intro j hj
        have := List.mem_range.1 hj
        rw [updS_other _ _ (by omega)]
      rw [h1, updS_same, if_neg hv, if_pos h0]
      simp
    · rw [ih (by omega), updS_other _ _ (fun e' => e e'.symm)]
      omega

/-- What the loop down has found when it stands ahead of m. -/
def Found (n : Nat) (f : Sl) (m : Int) (v : Int) : Prop := (v = -1 ∧ ∀ j : Nat, j < n → m < j → (f j).1 ≠ 0) ∨ ∃ k : Nat, v = k ∧ m < k ∧ k < n ∧ (f k).1 = 0 ∧ ∀ j : Nat, m < j → j < k → (f j).1 ≠ 0
theorem found_least {n : Nat} {f : Sl} {v : Int} (h : Found n f (-1) v) : leastI n f = v := by
  rcases h with ⟨rfl, hn⟩ | ⟨k, rfl, _, hk, h0, hb⟩
  · exact leastI_none fun j hj => hn j hj (by omega)
  · exact leastI_at hk h0 fun j hj => hb j (by omega) hj
theorem found_in {n : Nat} {f : Sl} {m : Nat} {v : Int} (hm : m < n) (h0 : (f m).1 = 0) : Found n f ((m : Int) - 1) (m : Int) := .inr ⟨m, rfl, by omega, hm, h0, fun j h1 h2 => by omega⟩
theorem found_out {n : Nat} {f : Sl} {m : Nat} {v : Int} (h : Found n f (m : Int) v) (h0 : (f m).1 ≠ 0) : Found n f ((m : Int) - 1) v := by
  rcases h with ⟨rfl, hn⟩ | ⟨k, rfl, h1, hk, h2, hb⟩
  · exact .inl ⟨rfl, fun j hj hmj => by
      by_cases e : j = m
      · subst e; exact h0
      · exact hn j hj (by omega)⟩
  · exact .inr ⟨k, rfl, by omega, hk, h2, fun j h3 h4 => by
      by_cases e : j = m
      · subst e; exact h0
      · exact hb j (by omega) h4⟩

set_option maxRecDepth 100000 in
set_option maxHeartbeats 4000000 in
theorem least_any (n : Int) (a : Option Addr) (len cap bo off : Nat) (V : Nat → Nat → Int) (w : World) (o : OpsI w a len bo off 4 V) (hlen : len ≤ 9223372036854775807) :
    Calls Try.prog 5 #[.int .i64 n, .slice a len cap] w fun e w' => e = .returned (.bool true) ∧ Below w.heap.size w w' := by
  by_cases h0 : 40 < n
  · go_enter Try.func5, Try.ntmps5
    go_wp2_with fail
    refine (known_any w).mono ?_
    rintro e w' ⟨rfl, hb⟩
    go_wp2_with fail
    go_ret
    exact ⟨rfl, hb⟩
  by_cases h1 : 150 < len
  · go_enter Try.func5, Try.ntmps5
    go_wp2_with fail
    refine (known_any w).mono ?_
    rintro e w' ⟨rfl, hb⟩
    go_wp2_with fail
    go_ret
    exact ⟨rfl, hb⟩
  have d1 : decide ((40 : Int) < n) = false := by simp; omega
  have d2 : decide ((150 : Int) < (len : Int)) = false := by simp; omega
  have d3 : decide (150 < len) = false := by simp; omega
  go_enter Try.func5, Try.ntmps5
  go_wp2_with fail
  refine (new_st (Below.refl _ w) n rfl).mono ?_
  rintro e w1 ⟨rfl, s1⟩
  have hN := clampN_le n
  generalize w.heap.size + 1 = S at *
  generalize hB : w.heap.size = B at s1
  have HB := Lib.hid hB; clear hB
  generalize clampN n = N at *
  go_wp2_with fail
  go_loopw [27] (fun i wr => ∃ k : Nat, k ≤ len ∧ i = .int .i64 k ∧ ∃ f : Sl, St w wr S B N N f) (fun i _ => len - (intOf i).toNat)
  case atStart => exact ⟨0, by omega, rfl, _, s1⟩
  case round =>
    clear s1
    obtain ⟨k, hk, rfl, f, s⟩ := hrel
    by_cases hlt : k < len
    · have o' := o.below s.below
      have ck := o'.c0 hlt (by omega)
      have c1 := o'.cell k hlt 1 (by omega)
      obtain rfl := o.at_ (by omega)
      rcases Decidable.em (V k 0 = 1) with hK | hK
      · have q : (V k 0 == 1) = true := by rw [hK]; rfl
        clear hK
        go_wp2_with fail
        refine (free_st s (V k 1) rfl).mono ?_
        rintro e w2 ⟨rfl, s2⟩
        go_wp2_with fail
        go_roundw
        case rel => exact ⟨k + 1, by omega, by go_num, _, s2⟩
        case measure => simp [intOf]; omega
      · have q : (V k 0 == 1) = false := beq_eq_false_iff_ne.2 hK
        clear hK
        go_wp2_with fail
        refine (len_any s.ss).mono ?_
        rintro e w' ⟨rfl, rfl⟩
        go_wp2_with fail
        obtain ⟨wo, rfl⟩ : ∃ wo : World, wo = wr := ⟨_, rfl⟩
        go_loopw [7, 8] (fun v i wr => ∃ m : Int, -1 ≤ m ∧ m < N ∧ i = .int .i64 m ∧ ∃ v' : Int, v = .int .i64 v' ∧ -1 ≤ v' ∧ v' < 1025 ∧ Found N f m v' ∧ St w wr S B N N f) (fun _ i _ => (intOf i + 1).toNat)
        case atStart => exact ⟨(N : Int) - 1, by omega, by omega, rfl, -1, rfl, by omega, by omega, .inl ⟨rfl, fun j hj h => by omega⟩, s⟩
        case round =>
          clear s
          obtain ⟨m, hm1, hm2, rfl, v', rfl, hv1, hv2, hfd, s⟩ := hrel
          have HF := Lib.hid hfd; clear hfd
          by_cases hm0 : 0 ≤ m
          · obtain ⟨M, rfl⟩ := Int.eq_ofNat_of_zero_le hm0
            have E1 := Lib.hid (ownerF_nat (n := N) (k := M) (f := f) (by omega))
            by_cases hz : (f M).1 = 0
            · have q2 : ((f M).1 != (0 : Int)) = false := by rw [hz]; rfl
              have HZ := Lib.hid hz; clear hz
              go_wp2_with fail
              refine (owner_st s (M : Int) E1.out).mono ?_
              rintro e w2 ⟨rfl, s2⟩
              go_wp2_with fail
              go_roundw
              case rel => exact ⟨(M : Int) - 1, by omega, by omega, rfl, (M : Int), rfl, by omega, by omega, found_in (v := 0) (by omega) HZ.out, s2⟩
              case measure => simp [intOf]
            · have q2 : ((f M).1 != (0 : Int)) = true := by rw [bne_iff_ne]; exact hz
              have HZ := Lib.hid hz; clear hz
              go_wp2_with fail
              refine (owner_st s (M : Int) E1.out).mono ?_
              rintro e w2 ⟨rfl, s2⟩
              go_wp2_with fail
              go_roundw
              case rel => exact ⟨(M : Int) - 1, by omega, by omega, rfl, v', rfl, by omega, by omega, found_out HF.out HZ.out, s2⟩
              case measure => simp [intOf]
          · obtain rfl : m = -1 := by omega
            have hL := found_least HF.out
            obtain ⟨u, hu⟩ : ∃ u, (usedL N f).length = u := ⟨_, rfl⟩
            have hu2 : u ≤ N := by rw [← hu]; exact usedL_le N f
            have HU := Lib.hid hu
            rcases leastI_cases N f with ⟨x, hx, hx1, hx2, hx3⟩ | ⟨hx1, hx2⟩
            · have e2 := takeF_at (n := N) (f := f) (pid := 1) (page := 1) rfl hx hx2 hx3
              have e3 := usedL_upd hx hx2 (1, 1) (by simp)
              rw [hu] at e3
              obtain rfl : v' = (x : Int) := by rw [← hL, hx1]
              have E2 := Lib.hid e2
              have E3 := Lib.hid e3
              clear hL hu hx1 hx2 hx3 e2 e3
              go_wp2_with fail
              refine (used_st s HU.out).mono ?_
              rintro e w2 ⟨rfl, s2⟩
              go_wp2_with fail
              refine (take_st s2 1 1 E2.out).mono ?_
              rintro e w3 ⟨rfl, s3⟩
              go_wp2_with fail
              refine (used_st s3 E3.out).mono ?_
              rintro e w4 ⟨rfl, s4⟩
              go_wp2_with fail
              go_roundw
              case rel => exact ⟨k + 1, by omega, by go_num, _, s4⟩
              case measure => simp [intOf]; omega
            · have e2 := takeF_full (n := N) (f := f) (pid := 1) (page := 1) rfl hx2
              obtain rfl : u = N := by rw [← hu]; exact usedL_all hx2
              obtain rfl : v' = -1 := by rw [← hL, hx1]
              have E2 := Lib.hid e2
              clear hL hu hx1 hx2 e2
              go_wp2_with fail
              refine (used_st s HU.out).mono ?_
              rintro e w2 ⟨rfl, s2⟩
              go_wp2_with fail
              refine (take_st s2 1 1 E2.out).mono ?_
              rintro e w3 ⟨rfl, s3⟩
              go_wp2_with fail
              refine (len_any s3.ss).mono ?_
              rintro e w' ⟨rfl, rfl⟩
              go_wp2_with fail
              go_roundw
              case rel => exact ⟨k + 1, by omega, by go_num, _, s3⟩
              case measure => simp [intOf]; omega
    · go_wp2_with fail
      refine (known_then s.below).mono ?_
      rintro e w' ⟨rfl, hb⟩
      go_wp2_with fail
      go_ret
      exact ⟨rfl, hb⟩
end Go.Proofs.Ytljgpiljfigojaa
