/-
  The walk of the law BitmapLeast.
-/
import Derived.Test.YtcjlcbnjkkglbaaDoorKnown
import Derived.Test.YtcjlcbnjkkglbaaDoorIntsI
namespace Go.Proofs.YtcjlcbnjkkglbaaDoor
open Go.RowKit
/-- What is told of a place. -/
def atI (r : Option Nat) : Int := match r with | some i => (i : Int) | none => 0
theorem told_eq (r : Option Nat) : toldO r = .tuple #[.int .i64 (atI r), .bool r.isSome] := by cases r <;> rfl
theorem clamp_le {n : Int} (h : n ≤ 2000) : clampN n ≤ 2000 := by unfold clampN; split <;> (try split) <;> omega
section
variable {w0 w w' : World} {D b N : Nat} {Wd : Nat → Nat}
/-- Ahead of what Run tells, each run has a number of the set. -/
theorem least_of {Wd : Nat → Nat} {from' many : Int} {N : Nat} {r : Option Nat} (h : RunI (bitW Wd) from' many N r) {last : Int} (hl : last = if r.isSome then atI r else (N : Int) - max many 1 + 1) {i : Nat} (hi : from'.toNat ≤ i) (hil : (i : Int) < last) (hm : 1 ≤ many) :
    ∃ k : Nat, (k : Int) < many ∧ bitW Wd (i + k) = true ∧ i + k < N := by
  have hr := h.run hm
  cases r with
  | none =>
    simp at hl
    have : max many 1 = many := by omega
    rw [this] at hl
    obtain ⟨k, hk, hb⟩ := hr.none rfl i hi (by omega)
    exact ⟨k, by omega, hb, by omega⟩
  | some z =>
    obtain ⟨h1, h2, h3, h4⟩ := hr.some z rfl
    simp [atI] at hl
    obtain ⟨k, hk, hb⟩ := h4 i hi (by omega)
    exact ⟨k, by omega, hb, by omega⟩
theorem next_least {Wd : Nat → Nat} {N i k : Nat} {many : Int} (hk : (k : Int) < many) (hb : bitW Wd (i + k) = true) (hN : i + k < N) {r : Option Nat} (h : NextS Wd i N r) : ∃ z : Nat, r = some z ∧ (z : Int) < (i : Int) + many := by
  cases r with
  | none =>
    have := h.none rfl (i + k) (by omega) hN
    rw [hb] at this; cases this
  | some z =>
    refine ⟨z, rfl, ?_⟩
    obtain ⟨h1, h2, h3, h4⟩ := h.some z rfl
    by_cases hz : z ≤ i + k
    · omega
    · have := h4 (i + k) (by omega) (by omega)
      rw [hb] at this; cases this
end
set_option maxRecDepth 100000 in
set_option maxHeartbeats 4000000 in
theorem least_any (n : Int) (a : Option Addr) (len cap bo off : Nat) (V : Nat → Int) (from' many : Int) (hf : from' ≤ 9223372036854775807) (hmn : -9223372036854775808 ≤ many) (w : World) (o : IntsI w a len bo off V) (hlen : len ≤ 9223372036854775807) (h0 : 0 < w.heap.size) (hT : TabW w) :
    Calls Tryd.prog 3 #[.int .i64 n, .slice a len cap, .int .i64 from', .int .i64 many] w fun e w' => e = .returned (.bool true) ∧ Below w.heap.size w w' := by
  by_cases hbad : 2000 < n ∨ (¬ 2000 < n ∧ 200 < len) ∨ (¬ 2000 < n ∧ ¬ 200 < len ∧ 2000 < many)
  · rcases hbad with h | ⟨h, h1⟩ | ⟨h, h1, h2⟩
    case' inr.inl => have d1 : decide (2000 < n) = false := by simp; omega
    case' inr.inr =>
      have d1 : decide (2000 < n) = false := by simp; omega
      have d2 : decide (200 < len) = false := by simp; omega
      have d3 : decide ((200 : Int) < (len : Int)) = false := by simp; omega
    all_goals
      go_enter Tryd.func3, Tryd.ntmps3
      go_wp2_with fail
      refine (known_any w h0 hT).mono ?_
      rintro e WF ⟨rfl, bF⟩
      go_wp2_with fail
      go_ret
      exact ⟨rfl, bF⟩
  have hn : n ≤ 2000 := by omega
  have d1 : decide (2000 < n) = false := by simp; omega
  have d2 : decide (200 < len) = false := by simp; omega
  have d3 : decide ((200 : Int) < (len : Int)) = false := by simp; omega
  have d4 : decide (2000 < many) = false := by simp; omega
  have hN := clamp_le hn
  go_enter Tryd.func3, Tryd.ntmps3
  go_wp2_with fail
  refine (new_st (Below.refl _ w) h0 hT n).mono ?_
  rintro e w1 ⟨rfl, s1, -⟩
  generalize clampN n = N at *
  generalize w.heap.size + 1 = D at *
  generalize hbb : w.heap.size = b at s1
  clear hbb
  clear d1 d2 d3 d4
  go_wp2_with fail
  go_loopw [35] (fun v wr => ∃ (k : Nat) (Wd : Nat → Nat), k ≤ len ∧ v = .int .i64 k ∧ StB w wr D b N Wd) (fun v _ => len - (intOf v).toNat)
  case atStart => exact ⟨0, _, Nat.zero_le _, rfl, s1⟩
  case round =>
    clear s1
    obtain ⟨k, Wd, hk, rfl, s⟩ := hrel
    by_cases hlt : k < len
    · have o' := o.below s.below
      have ck := o'.cell k hlt
      obtain rfl := o.at_ (by omega)
      clear o'
      go_wp2_with fail
      refine (put_st s (V k) rfl rfl).mono ?_
      rintro e w2 ⟨rfl, s2, -⟩
      go_wp2_with fail
      go_roundw
      case rel => exact ⟨k + 1, _, by omega, by go_num, s2⟩
      case measure => simp [intOf]; omega
    · have hkl : decide ((k : Int) < (len : Int)) = false := by simp; omega
      have hkl2 : decide (k < len) = false := by simp; omega
      go_wp2_with fail
      refine (run_st s from' many hf).mono ?_
      rintro e w2 ⟨r, hr, rfl, rfl⟩
      rw [told_eq]
      obtain ⟨last, hl⟩ : ∃ last : Int, last = if r.isSome then atI r else (N : Int) - max many 1 + 1 := ⟨_, rfl⟩
      have HL := Lib.hid (fun (i : Nat) (hi : from'.toNat ≤ i) (hil : (i : Int) < last) (hm : 1 ≤ many) => least_of hr hl hi hil hm)
      obtain ⟨ok, hok⟩ : ∃ ok, r.isSome = ok := ⟨_, rfl⟩
      obtain ⟨x, hx⟩ : ∃ x, atI r = x := ⟨_, rfl⟩
      have HR := Lib.hid (fun (h : ok = false) => (show x = 0 by
        rw [← hx]
        cases r with
        | none => rfl
        | some z => rw [← hok] at h; cases h))
      have hll : -9223372036854775808 ≤ last ∧ last ≤ 65537 := by
        rw [hl]
        cases r with
        | none => simp; omega
        | some z =>
          by_cases hm : 1 ≤ many
          · obtain ⟨h1, h2, h3, h4⟩ := (hr.run hm).some z rfl
            simp [atI]; omega
          · have := hr.no (by omega)
            cases this
      rw [hok, hx] at hl
      rw [hok, hx]
      have HLST := Lib.hid hl
      clear hok hx
      obtain ⟨m, hm⟩ : ∃ m : Nat, m = from'.toNat := ⟨_, rfl⟩
      have HM := Lib.hid hm
      clear hm hl hr hkl hkl2
      go_upto_if 54 with fail
      go_cut [13] from 52 to 62 (fun l wx => l = .int .i64 last ∧ wr = wx)
      case first =>
        cases ok with
        | true =>
          have E := Lib.hid (show x = last by rw [HLST.out]; rfl)
          go_wp2_with fail
          go_meet
          exact ⟨by rw [E.out], rfl⟩
        | false =>
          have E := Lib.hid (show (N : Int) - max many 1 + 1 = last by rw [HLST.out]; rfl)
          rcases Decidable.em (many < 1) with hmany | hmany
          case' inl => have E2 := Lib.hid (show (N : Int) - 1 + 1 = last by have := E.out; omega)
          case' inr =>
            have E2 := Lib.hid (show (N : Int) - many + 1 = last by have := E.out; omega)
            have hmany2 : 1 ≤ many := by omega
          all_goals
            go_wp2_with (go_at_call 11; refine (size_st s).mono ?_; rintro e w' ⟨rfl, rfl⟩)
            go_meet
            exact ⟨by rw [← E2.out] <;> go_num, rfl⟩
      case rest =>
        obtain ⟨rfl, rfl⟩ := hcut
        go_upto_region 15 with fail
        go_cut [14] from 61 to 62 (fun i wx => i = .int .i64 (m : Int) ∧ wr = wx)
        case first =>
          rcases Decidable.em (from' < 0) with hneg | hneg
          · have HM0 := Lib.hid (show m = 0 by have := HM.out; omega)
            go_wp2_with fail
            go_meet
            exact ⟨by rw [HM0.out]; rfl, rfl⟩
          · have hm0 : from' = (m : Int) := by have := HM.out; omega
            have hm1 : (0 : Int) ≤ (m : Int) := by omega
            clear HL HM
            subst hm0
            go_wp2_with fail
            go_meet
            exact ⟨rfl, rfl⟩
        case rest =>
        obtain ⟨rfl, rfl⟩ := hcut
        have hm2 : many ≤ 2000 := by omega
        go_wp2_with fail
        go_loopw [14] (fun v wx => ∃ i : Nat, v = .int .i64 i ∧ wr = wx ∧ m ≤ i ∧ (i : Int) ≤ 9223372036854775807) (fun v _ => (last - intOf v).toNat)
        case atStart => exact ⟨m, rfl, rfl, Nat.le_refl _, by have := HM.out; omega⟩
        case round =>
          obtain ⟨i, rfl, rfl, hmi, hi64⟩ := hrel
          rcases Decidable.em ((i : Int) < last ∧ 1 ≤ many) with ⟨hil, hm1⟩ | hex
          · obtain ⟨z0, hk1, hk2, hk3⟩ := HL.out i (by have := HM.out; omega) hil hm1
            go_wp2_with fail
            refine (next_st s i (by omega)).mono ?_
            rintro e w3 ⟨r2, hr2, rfl, rfl⟩
            rw [Int.toNat_natCast] at hr2
            obtain ⟨z, rfl, hz⟩ := next_least hk1 hk2 hk3 hr2
            unfold toldO
            have d5 : decide ((i : Int) + many ≤ (z : Int)) = false := by simp; omega
            clear hr2 hk2
            go_wp2_with fail
            go_roundw
            case rel => exact ⟨i + 1, by go_num, trivial, by omega, by omega⟩
            case measure => simp [intOf]; omega
          · have hT2 := s.tab
            have h02 : 0 < wr.heap.size := by have := s.pos; have := s.below.size; omega
            have bl := s.below
            have HBL := Lib.hid bl
            clear bl
            cases ok with
            | true =>
              rcases Decidable.em ((i : Int) < last) with hil | hil
              case' inl => have d6 : decide (1 ≤ many) = false := by simp; omega
              case' inr => have d6 : decide ((i : Int) < last) = false := by simp; omega
              all_goals
                go_wp2_with fail
                refine (known_any wr h02 hT2).mono ?_
                rintro e WF ⟨rfl, bF⟩
                go_wp2_with fail
                go_ret
                exact ⟨rfl, below_then HBL.out bF⟩
            | false =>
              have hr0 : x = 0 := HR.out rfl
              subst hr0
              rcases Decidable.em ((i : Int) < last) with hil | hil
              case' inl => have d6 : decide (1 ≤ many) = false := by simp; omega
              case' inr => have d6 : decide ((i : Int) < last) = false := by simp; omega
              all_goals
                go_wp2_with fail
                refine (known_any wr h02 hT2).mono ?_
                rintro e WF ⟨rfl, bF⟩
                go_wp2_with fail
                go_ret
                exact ⟨rfl, below_then HBL.out bF⟩
end Go.Proofs.YtcjlcbnjkkglbaaDoor
