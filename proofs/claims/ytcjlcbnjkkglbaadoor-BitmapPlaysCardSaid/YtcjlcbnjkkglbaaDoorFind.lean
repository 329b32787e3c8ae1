/-
  The walks of seek, Free, Next.
-/
import Derived.Test.YtcjlcbnjkkglbaaDoorSeek
import Derived.Deep.DeepCutAuto
import Derived.Deep.CutBlock
namespace Go.Proofs.YtcjlcbnjkkglbaaDoor
open Go.RowKit
theorem cut_word (x r : Nat) (hx : x < 18446744073709551616) : IntKind.u64.wrap ((x : Int) / 2 ^ r * 2 ^ r) = ((cutW r x : Nat) : Int) := by
  have h := cut_le r x
  have e : ((x : Int) / 2 ^ r * 2 ^ r) = ((cutW r x : Nat) : Int) := by unfold cutW; rw [Int.natCast_mul, Int.natCast_ediv, Int.natCast_pow]; rfl
  rw [e, IntKind.wrap_u64]
  omega
theorem told_some {x : Int} {r : Nat} (h : x = (r : Int)) : Ending.returned (.tuple #[.int .i64 x, .bool true]) = .returned (toldO (some r)) := by rw [h]; rfl
section
variable {w w' : World} {base D c b N : Nat} {a : Option Addr} {Wd : Nat → Nat}
set_option maxHeartbeats 2000000 in
theorem seek_any (s : BS w base D a c b N Wd) (hT : TabW w) {F : Nat} {fb : Bool} (hcf : ∀ (xs : Array Value) (W : World), Sem.run Tryd.prog (callFunc F xs) W = .ok (.enter F xs) W)
    (hF : ∀ (x : Nat) (W : World), x < 18446744073709551616 → Calls Tryd.prog F #[.int .u64 x] W fun e W' => e = .returned (.int .u64 (flip fb x)) ∧ W = W') (mi : Int) (hmi : mi ≤ 9223372036854775807) :
    Calls Tryd.prog 26 #[.pointer (some ⟨D, 0, none⟩), .int .i64 mi, .func (.func F) #[] #[]] w fun e w' => ∃ r, Seek (fun j => bitW Wd j != fb) mi.toNat N r ∧ e = .returned (toldO r) ∧ w = w' := by
  have hle := s.le
  have hlc := s.lec
  have c0 := s.s0
  have c1 := s.s1
  obtain ⟨m, hm⟩ : ∃ m : Nat, m = mi.toNat := ⟨_, rfl⟩
  rw [← hm]
  have hm' : m ≤ 9223372036854775807 := by omega
  have hd := div64 m
  have hmo := mod64 m
  have hm0 : (0 : Int) ≤ (m : Int) := by omega
  have HM := Lib.hid hm
  clear hm
  go_enter Tryd.func26, Tryd.ntmps26
  go_upto_region 1 with fail
  go_cut [1] from 11 to 12 (fun c wx => c = .int .i64 (m : Int) ∧ w = wx)
  case first =>
    have hm := HM.out
    by_cases hneg : mi < 0
    · have HM0 := Lib.hid (show m = 0 by omega)
      clear hm
      go_wp2_with fail
      go_meet
      exact ⟨by rw [HM0.out]; rfl, rfl⟩
    · have hm0 : mi = (m : Int) := by omega
      clear hm HM
      subst hm0
      have hneg2 : (0 : Int) ≤ (m : Int) := by omega
      go_wp2_with fail
      go_meet
      exact ⟨rfl, rfl⟩
  case rest =>
  obtain ⟨rfl, rfl⟩ := hcut
  go_wp2_with fail
  go_loopw [8] (fun v wr => ∃ k : Nat, v = .int .i64 k ∧ wr = w ∧ m / 64 ≤ k ∧ k ≤ max (m / 64) (wordsOf N) ∧ Clear (fun j => bitW Wd j != fb) m N k) (fun v _ => wordsOf N - (intOf v).toNat)
  case atStart => exact ⟨m / 64, rfl, rfl, Nat.le_refl _, Nat.le_max_left _ _, fun j h1 h2 _ => by omega⟩
  case round =>
    obtain ⟨k, rfl, rfl, hk1, hk2, hcl⟩ := hrel
    by_cases hmN : m < N
    · by_cases hkK : k < wordsOf N
      · have cw := s.word hkK
        have hpo := s.pos (by omega)
        have hW : wordsOf N ≤ 1024 := by unfold wordsOf; omega
        have hmN' : (m : Int) < (N : Int) := by omega
        have hkK' : (k : Int) < ((wordsOf N : Nat) : Int) := by omega
        have hk0 : (0 : Int) ≤ (k : Int) := by omega
        subst hpo
        generalize hKK : wordsOf N = K at *
        go_wp2_with fail
        refine (hF (Wd k) _ (s.sm k)).mono ?_
        rintro e w' ⟨rfl, rfl⟩
        have hwl := wordAt_lt (fb := fb) s.sm m k
        have hsk := fun h0 hN => seek_here (fb := fb) (N := N) s.sm hk1 hcl h0 hN
        have hso := fun h0 => seek_on (fb := fb) (N := N) s.sm hk1 hcl h0
        by_cases hke : k = m / 64
        · subst hke
          have hcw := cut_word (flip fb (Wd (m / 64))) (m % 64) (flip_lt (s.sm _))
          have hww : cutW (m % 64) (flip fb (Wd (m / 64))) = wordAt fb Wd m (m / 64) := by unfold wordAt; rw [if_pos rfl]
          rw [hww] at hcw
          have hz64 : Lib.ctz 64 (wordAt fb Wd m (m / 64)) ≤ 64 := by
            by_cases h : wordAt fb Wd m (m / 64) = 0
            · rw [h]; decide
            · exact Nat.le_of_lt (low_bit h hwl).1
          go_wp2_with fail
          refine (tz_any _ hwl _ hT).mono ?_
          rintro e w' ⟨rfl, rfl⟩
          generalize hXX : wordAt fb Wd m (m / 64) = X at *
          generalize hZZ : Lib.ctz 64 X = Z at *
          by_cases hx0 : X = 0
          · have q0 : (((X : Nat) : Int) != 0) = false := by rw [hx0]; rfl
            have HSO := Lib.hid (hso (.inl hx0))
            clear hso hsk hx0
            go_wp2_with fail
            go_roundw
            case rel => exact ⟨(m / 64) + 1, by go_num, trivial, by omega, by omega, HSO.out⟩
            case measure => simp [intOf]; omega
          · have q0 : (((X : Nat) : Int) != 0) = true := by simp; omega
            by_cases hZN : 64 * (m / 64) + Z < N
            · have HSK := Lib.hid (hsk hx0 hZN)
              have hZi : (m : Int) / 64 * 64 + (Z : Int) < (N : Int) := by omega
              clear hso hsk hx0
              go_wp2_with fail
              go_ret2
              exact ⟨_, HSK.out, told_some (by omega), rfl⟩
            · have HSO := Lib.hid (hso (.inr (by omega)))
              have hZi : ¬ ((m : Int) / 64 * 64 + (Z : Int) < (N : Int)) := by omega
              have hZj : (N : Int) ≤ (m : Int) / 64 * 64 + (Z : Int) := by omega
              clear hso hsk hx0
              go_wp2_with fail
              go_roundw
              case rel => exact ⟨(m / 64) + 1, by go_num, trivial, by omega, by omega, HSO.out⟩
              case measure => simp [intOf]; omega
        · have hke1 : ¬ (k : Int) = (m : Int) / 64 := by omega
          have hke2 : ((k : Int) == (m : Int) / 64) = false := beq_eq_false_iff_ne.2 hke1
          have hww : flip fb (Wd k) = wordAt fb Wd m k := by unfold wordAt; rw [if_neg hke]
          rw [hww]
          have hlt : (m : Int) / 64 < (k : Int) := by omega
          have hz64 : Lib.ctz 64 (wordAt fb Wd m k) ≤ 64 := by
            by_cases h : wordAt fb Wd m k = 0
            · rw [h]; decide
            · exact Nat.le_of_lt (low_bit h hwl).1
          go_wp2_with fail
          refine (tz_any _ hwl _ hT).mono ?_
          rintro e w' ⟨rfl, rfl⟩
          generalize hXX : wordAt fb Wd m k = X at *
          generalize hZZ : Lib.ctz 64 X = Z at *
          by_cases hx0 : X = 0
          · have q0 : (((X : Nat) : Int) != 0) = false := by rw [hx0]; rfl
            have HSO := Lib.hid (hso (.inl hx0))
            clear hso hsk hx0
            go_wp2_with fail
            go_roundw
            case rel => exact ⟨k + 1, by go_num, trivial, by omega, by omega, HSO.out⟩
            case measure => simp [intOf]; omega
          · have q0 : (((X : Nat) : Int) != 0) = true := by simp; omega
            by_cases hZN : 64 * k + Z < N
            · have HSK := Lib.hid (hsk hx0 hZN)
              have hZi : (k : Int) * 64 + (Z : Int) < (N : Int) := by omega
              clear hso hsk hx0
              go_wp2_with fail
              go_ret2
              exact ⟨_, HSK.out, told_some (by omega), rfl⟩
            · have HSO := Lib.hid (hso (.inr (by omega)))
              have hZi : ¬ ((k : Int) * 64 + (Z : Int) < (N : Int)) := by omega
              have hZj : (N : Int) ≤ (k : Int) * 64 + (Z : Int) := by omega
              clear hso hsk hx0
              go_wp2_with fail
              go_roundw
              case rel => exact ⟨k + 1, by go_num, trivial, by omega, by omega, HSO.out⟩
              case measure => simp [intOf]; omega
      · have HN := Lib.hid (show Seek (fun j => bitW Wd j != fb) m N none from ⟨fun i e => (by cases e), fun _ j h1 h2 => hcl j h1 (by unfold wordsOf at hkK; omega) h2⟩)
        have hmN' : (m : Int) < (N : Int) := by omega
        have hkK' : decide ((k : Int) < ((wordsOf N : Nat) : Int)) = false := by simp; omega
        have hkK2 : decide (k < wordsOf N) = false := by simp; omega
        generalize wordsOf N = K at *
        clear hcl
        go_wp2_with fail
        go_ret2
        exact ⟨_, HN.out, rfl, rfl⟩
    · have HN := Lib.hid (show Seek (fun j => bitW Wd j != fb) m N none from ⟨fun i e => (by cases e), fun _ j h1 h2 => by omega⟩)
      have hmN' : decide ((m : Int) < (N : Int)) = false := by simp; omega
      have hmN2 : decide (m < N) = false := by simp; omega
      clear hcl
      go_wp2_with fail
      go_ret2
      exact ⟨_, HN.out, rfl, rfl⟩
end
end Go.Proofs.YtcjlcbnjkkglbaaDoor
