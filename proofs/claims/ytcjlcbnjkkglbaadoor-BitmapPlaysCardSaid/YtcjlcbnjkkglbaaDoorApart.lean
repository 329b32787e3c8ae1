/-
  The walk of the law BitmapApart.
-/
import Derived.Test.YtcjlcbnjkkglbaaDoorLeast
namespace Go.Proofs.YtcjlcbnjkkglbaaDoor
open Go.RowKit
section
variable {N i : Nat} {Wd : Nat → Nat}
theorem ownB_of (h : i < N) : ownB N (i : Int) = true := by unfold ownB; simp; omega
theorem hasB_of (h : i < N) : hasB N Wd (i : Int) = bitW Wd i := by unfold hasB; rw [ownB_of h, Bool.true_and, Int.toNat_natCast]
theorem putE_ok (h : i < N) (hb : bitW Wd i = false) : putE N Wd (i : Int) = 0 := by unfold putE; rw [ownB_of h, hasB_of h, hb]; rfl
theorem takeE_ok (h : i < N) (hb : bitW Wd i = true) : takeE N Wd (i : Int) = 0 := by unfold takeE; rw [ownB_of h, hasB_of h, hb]; rfl
theorem bit_taken (Wd : Nat → Nat) (i : Nat) : bitW (takeW Wd i) i = false := by rw [bit_take]; simp
end
set_option maxRecDepth 100000 in
set_option maxHeartbeats 8000000 in
theorem apart_any (n : Int) (a : Option Addr) (len cap bo off : Nat) (V : Nat → Int) (from' many : Int) (hf : from' ≤ 9223372036854775807) (hmn : -9223372036854775808 ≤ many) (w : World) (o : IntsI w a len bo off V) (hlen : len ≤ 9223372036854775807) (h0 : 0 < w.heap.size) (hT : TabW w) :
    Calls Tryd.prog 4 #[.int .i64 n, .slice a len cap, .int .i64 from', .int .i64 many] w fun e w' => e = .returned (.bool true) ∧ Below w.heap.size w w' := by
  by_cases hbad : 2000 < n ∨ (¬ 2000 < n ∧ 200 < len) ∨ (¬ 2000 < n ∧ ¬ 200 < len ∧ 2000 < many)
  · rcases hbad with h | ⟨h, h1⟩ | ⟨h, h1, h2⟩
    case' inr.inl => have d1 : decide (2000 < n) = false := by simp; omega
    case' inr.inr =>
      have d1 : decide (2000 < n) = false := by simp; omega
      have d2 : decide (200 < len) = false := by simp; omega
      have d3 : decide ((200 : Int) < (len : Int)) = false := by simp; omega
    all_goals
      go_enter Tryd.func4, Tryd.ntmps4
      go_wp2_with fail
      refine (known_any w h0 hT).mono ?_
      rintro e WF ⟨rfl, bF⟩
      go_wp2_with fail
      go_ret
      exact ⟨rfl, bF⟩
  have hn : n ≤ 2000 := by omega
  have d1 : decide (2000 < n) = false := by simp; omega
  have d2 : decide (200 < len) = false := by simp; omega
  have d3 : decide ((200 : Int) < (len : Int)) = false := by simp; omega
  have d4 : decide (2000 < many) = false := by simp; omega
  have hN := clamp_le hn
  obtain ⟨m, hm⟩ : ∃ m : Nat, m = from'.toNat := ⟨_, rfl⟩
  have HM := Lib.hid hm
  clear hm
  go_enter Tryd.func4, Tryd.ntmps4
  go_wp2_with fail
  refine (new_st (Below.refl _ w) h0 hT n).mono ?_
  rintro e w1 ⟨rfl, s1, -⟩
  generalize clampN n = N at *
  generalize w.heap.size + 1 = D at *
  generalize hbb : w.heap.size = b at s1
  clear hbb
  clear d1 d2 d3 d4
  go_wp2_with fail
  go_loopw [38] (fun v wr => ∃ (k : Nat) (Wd : Nat → Nat), k ≤ len ∧ v = .int .i64 k ∧ StB w wr D b N Wd) (fun v _ => len - (intOf v).toNat)
  case atStart => exact ⟨0, _, Nat.zero_le _, rfl, s1⟩
  case round =>
    clear s1
    obtain ⟨k, Wd, hk, rfl, s⟩ := hrel
    by_cases hlt : k < len
    · have o' := o.below s.below
      have ck := o'.cell k hlt
      obtain rfl := o.at_ (by omega)
      clear o'
      go_wp2_with fail
      refine (put_st s (V k) rfl rfl).mono ?_
      rintro e w2 ⟨rfl, s2, -⟩
      go_wp2_with fail
      go_roundw
      case rel => exact ⟨k + 1, _, by omega, by go_num, s2⟩
      case measure => simp [intOf]; omega
    · have hkl : decide ((k : Int) < (len : Int)) = false := by simp; omega
      have hkl2 : decide (k < len) = false := by simp; omega
      go_wp2_with fail
      refine (next_st s from' hf).mono ?_
      rintro e w2 ⟨r, hr, rfl, rfl⟩
      rw [← HM.out] at hr
      clear hkl hkl2
      rw [told_eq]
      obtain ⟨x, hx⟩ : ∃ x, atI r = x := ⟨_, rfl⟩
      obtain ⟨ok, hok⟩ : ∃ ok, r.isSome = ok := ⟨_, rfl⟩
      rw [hx, hok]
      have HA := Lib.hid (fun (h : ok = true) => (show ∃ i : Nat, x = (i : Int) ∧ NextS Wd m N (some i) by
        cases r with
        | none => rw [← hok] at h; cases h
        | some i => exact ⟨i, hx.symm, hr⟩))
      clear hx hok hr
      go_upto_if 54 with fail
      go_cut [] from 48 to 74 (fun wx => ∃ Wd, StB w wx D b N Wd)
      case first =>
        cases ok with
        | false =>
          go_wp2_with fail
          go_meet
          exact ⟨_, s⟩
        | true =>
          obtain ⟨i, rfl, hi⟩ := HA.out rfl
          obtain ⟨hi1, hi2, hi3, hi4⟩ := hi.some i rfl
          have hi5 : bitW Wd i = true := by simpa using hi3
          have hi6 : ∀ j, m ≤ j → j < i → bitW Wd j = false := fun j h1 h2 => by simpa using hi4 j h1 h2
          have HI6 := Lib.hid hi6
          have HI5 := Lib.hid hi5
          clear hi hi3 hi4 hi5 hi6
          go_upto_region 13 with fail
          go_cut [13] from 55 to 56 (fun c wx => c = .int .i64 (m : Int) ∧ wr = wx)
          case first =>
            rcases Decidable.em (from' < 0) with hneg | hneg
            · have HM0 := Lib.hid (show m = 0 by have := HM.out; omega)
              go_wp2_with fail
              go_meet
              exact ⟨by rw [HM0.out]; rfl, rfl⟩
            · have hm0 : from' = (m : Int) := by have := HM.out; omega
              have hm1 : (0 : Int) ≤ (m : Int) := by omega
              clear HM
              subst hm0
              go_wp2_with fail
              go_meet
              exact ⟨rfl, rfl⟩
          case rest =>
          obtain ⟨rfl, rfl⟩ := hcut
          go_wp2_with fail
          go_loopw [13] (fun v wx => ∃ j : Nat, v = .int .i64 j ∧ wr = wx ∧ m ≤ j ∧ j ≤ i) (fun v _ => i - (intOf v).toNat)
          case atStart => exact ⟨m, rfl, rfl, Nat.le_refl _, hi1⟩
          case round =>
            obtain ⟨j, rfl, rfl, hj1, hj2⟩ := hrel
            by_cases hji : j < i
            · have HB := Lib.hid (show hasB N Wd (j : Int) = false by rw [hasB_of (by omega)]; exact HI6.out j hj1 hji)
              go_wp2_with fail
              refine (has_st s (j : Int) HB.out).mono ?_
              rintro e w3 ⟨rfl, rfl⟩
              go_wp2_with fail
              go_roundw
              case rel => exact ⟨j + 1, by go_num, trivial, by omega, by omega⟩
              case measure => simp [intOf]; omega
            · have hd : decide (j < i) = false := by simp; omega
              go_wp2_with fail
              refine (take_st s (i : Int) (takeE_ok hi2 HI5.out) (Wd' := takeW Wd i) (by simp)).mono ?_
              rintro e w3 ⟨rfl, s3, -⟩
              go_wp2_with fail
              refine (put_st s3 (i : Int) (putE_ok hi2 (bit_taken Wd i)) rfl).mono ?_
              rintro e w4 ⟨rfl, s4, -⟩
              go_wp2_with fail
              go_meet
              exact ⟨_, s4⟩
      case rest =>
        obtain ⟨Wd2, s2⟩ := hcut
        clear s HA
        go_wp2_with fail
        refine (run_st s2 from' many hf).mono ?_
        rintro e w2 ⟨r, hr, rfl, rfl⟩
        rw [told_eq]
        obtain ⟨x, hx⟩ : ∃ x, atI r = x := ⟨_, rfl⟩
        obtain ⟨ok, hok⟩ : ∃ ok, r.isSome = ok := ⟨_, rfl⟩
        rw [hx, hok]
        have HA := Lib.hid (fun (h : ok = true) => (show ∃ i M : Nat, x = (i : Int) ∧ many = (M : Int) ∧ i + M ≤ N ∧ ∀ k, k < M → bitW Wd2 (i + k) = false by
          cases r with
          | none => rw [← hok] at h; cases h
          | some i =>
            by_cases hm1 : 1 ≤ many
            · obtain ⟨h1, h2, h3, h4⟩ := (hr.run hm1).some i rfl
              exact ⟨i, many.toNat, hx.symm, by omega, h2, h3⟩
            · have := hr.no (by omega)
              cases this))
        clear hx hok hr
        go_upto_if 82 with fail
        go_cut [] from 75 to 93 (fun wx => ∃ Wd, StB w wx D b N Wd)
        case first =>
          cases ok with
          | false =>
            go_wp2_with fail
            go_meet
            exact ⟨_, s2⟩
          | true =>
            obtain ⟨i, M, rfl, rfl, hi1, hi2⟩ := HA.out rfl
            have HI2 := Lib.hid hi2
            clear hi2
            have hM : M ≤ 2000 := by omega
            have hN2 : N ≤ 2000 := hN
            go_wp2_with fail
            go_loopw [84] (fun v wx => ∃ (k : Nat) (Wk : Nat → Nat), v = .int .i64 k ∧ k ≤ M ∧ StB w wx D b N Wk ∧ ∀ t, k ≤ t → t < M → bitW Wk (i + t) = false) (fun v _ => M - (intOf v).toNat)
            case atStart => exact ⟨0, Wd2, rfl, Nat.zero_le _, s2, fun t _ ht => HI2.out t ht⟩
            case round =>
              obtain ⟨k, Wk, rfl, hk, sk, hbk⟩ := hrel
              have HBK := Lib.hid hbk
              clear hbk
              by_cases hkM : k < M
              · have HP := Lib.hid (putE_ok (N := N) (i := i + k) (Wd := Wk) (by omega) (HBK.out k (Nat.le_refl _) hkM))
                have HC := Lib.hid (show ((i + k : Nat) : Int) = (i : Int) + (k : Int) by omega)
                go_wp2_with fail
                rw [← HC.out]
                refine (put_st sk ((i + k : Nat) : Int) HP.out (Wd' := putW Wk (i + k)) (by rw [if_pos rfl, Int.toNat_natCast])).mono ?_
                rintro e w3 ⟨rfl, s3, -⟩
                go_wp2_with fail
                go_roundw
                case rel => exact ⟨k + 1, _, by go_num, by omega, s3, fun t h1 h2 => by
                  rw [bit_put, HBK.out t (by omega) h2]
                  simp; omega⟩
                case measure => simp [intOf]; omega
              · have hd : decide (k < M) = false := by simp; omega
                have hd2 : decide ((k : Int) < (M : Int)) = false := by simp; omega
                go_wp2_with fail
                go_meet
                exact ⟨_, sk⟩
        case rest =>
          obtain ⟨Wd3, s3⟩ := hcut
          clear s2 HA
          go_wp2_with fail
          refine (free_st s3 from' hf).mono ?_
          rintro e w2 ⟨r, hr, rfl, rfl⟩
          rw [← HM.out] at hr
          rw [told_eq]
          obtain ⟨x, hx⟩ : ∃ x, atI r = x := ⟨_, rfl⟩
          obtain ⟨ok, hok⟩ : ∃ ok, r.isSome = ok := ⟨_, rfl⟩
          rw [hx, hok]
          have HA := Lib.hid (fun (h : ok = true) => (show ∃ i : Nat, x = (i : Int) ∧ FreeS Wd3 m N (some i) by
            cases r with
            | none => rw [← hok] at h; cases h
            | some i => exact ⟨i, hx.symm, hr⟩))
          clear hx hok hr
          go_upto_if 100 with fail
          go_cut [] from 94 to 115 (fun wx => ∃ Wd, StB w wx D b N Wd)
          case first =>
            cases ok with
            | false =>
              go_wp2_with fail
              go_meet
              exact ⟨_, s3⟩
            | true =>
              obtain ⟨i, rfl, hi⟩ := HA.out rfl
              obtain ⟨hi1, hi2, hi3, hi4⟩ := hi.some i rfl
              have hi5 : bitW Wd3 i = false := by simpa using hi3
              have hi6 : ∀ j, m ≤ j → j < i → bitW Wd3 j = true := fun j h1 h2 => by simpa using hi4 j h1 h2
              have HI6 := Lib.hid hi6
              have HI5 := Lib.hid hi5
              clear hi hi3 hi4 hi5 hi6
              go_upto_region 30 with fail
              go_cut [19] from 101 to 102 (fun c wx => c = .int .i64 (m : Int) ∧ wc = wx)
              case first =>
                rcases Decidable.em (from' < 0) with hneg | hneg
                · have HM0 := Lib.hid (show m = 0 by have := HM.out; omega)
                  go_wp2_with fail
                  go_meet
                  exact ⟨by rw [HM0.out]; rfl, rfl⟩
                · have hm0 : from' = (m : Int) := by have := HM.out; omega
                  have hm1 : (0 : Int) ≤ (m : Int) := by omega
                  clear HM
                  subst hm0
                  go_wp2_with fail
                  go_meet
                  exact ⟨rfl, rfl⟩
              case rest =>
              obtain ⟨rfl, rfl⟩ := hcut
              go_wp2_with fail
              go_loopw [19] (fun v wx => ∃ j : Nat, v = .int .i64 j ∧ wc = wx ∧ m ≤ j ∧ j ≤ i) (fun v _ => i - (intOf v).toNat)
              case atStart => exact ⟨m, rfl, rfl, Nat.le_refl _, hi1⟩
              case round =>
                obtain ⟨j, rfl, rfl, hj1, hj2⟩ := hrel
                by_cases hji : j < i
                · have HB := Lib.hid (show hasB N Wd3 (j : Int) = true by rw [hasB_of (by omega)]; exact HI6.out j hj1 hji)
                  go_wp2_with fail
                  refine (has_st s3 (j : Int) HB.out).mono ?_
                  rintro e w3 ⟨rfl, rfl⟩
                  go_wp2_with fail
                  go_roundw
                  case rel => exact ⟨j + 1, by go_num, trivial, by omega, by omega⟩
                  case measure => simp [intOf]; omega
                · have hd : decide (j < i) = false := by simp; omega
                  go_wp2_with fail
                  refine (put_st s3 (i : Int) (putE_ok hi2 HI5.out) rfl).mono ?_
                  rintro e w4 ⟨rfl, s4, -⟩
                  go_wp2_with fail
                  go_meet
                  exact ⟨_, s4⟩
          case rest =>
            clear s3 HA
            obtain ⟨Wd4, s4⟩ := hcut
            have hT2 := s4.tab
            have h02 : 0 < wc.heap.size := by have := s4.pos; have := s4.below.size; omega
            have HBL := Lib.hid s4.below
            go_wp2_with fail
            refine (known_any wc h02 hT2).mono ?_
            rintro e WF ⟨rfl, bF⟩
            go_wp2_with fail
            go_ret
            exact ⟨rfl, below_then HBL.out bF⟩
end Go.Proofs.YtcjlcbnjkkglbaaDoor
