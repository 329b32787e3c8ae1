/-
  The walks of Free, Next, Run, and of 'known'.
-/
import Derived.Test.YtcjlcbnjkkglbaaDoorFind
namespace Go.Proofs.YtcjlcbnjkkglbaaDoor
open Go.RowKit
/-- What Run tells. -/
structure RunI (P : Nat → Bool) (m many : Int) (N : Nat) (r : Option Nat) : Prop where
  run : 1 ≤ many → RunS P m.toNat many.toNat N r
  no : many < 1 → r = none
section
variable {P : Nat → Bool} {m q many N : Nat} {r : Option Nat}
/-- No run begins ahead of the q-th. -/
def NoRun (P : Nat → Bool) (m q many : Nat) : Prop := ∀ j, m ≤ j → j < q → ∃ k, k < many ∧ P (j + k) = true
theorem run_none (h : NoRun P m q many) (hm : 1 ≤ many) {u : Nat} (hu : ∀ j, q ≤ j → j < u → P j = true) (hN : N < u + many) : RunS P m many N none := by
  refine ⟨fun i e => (by cases e), fun _ j hj hl => ?_⟩
  by_cases h1 : j < q
  · exact h j hj h1
  · exact ⟨0, by omega, hu j (by omega) (by omega)⟩
theorem run_some (h : NoRun P m q many) (hmq : m ≤ q) (hm : 1 ≤ many) {u : Nat} (hqu : q ≤ u) (hu : ∀ j, q ≤ j → j < u → P j = true) (hN : u + many ≤ N) (hc : ∀ k, k < many → P (u + k) = false) : RunS P m many N (some u) := by
  refine ⟨fun i e => ?_, fun e => by cases e⟩
  cases e
  refine ⟨by omega, hN, hc, fun j hj hl => ?_⟩
  by_cases h1 : j < q
  · exact h j hj h1
  · exact ⟨0, by omega, hu j (by omega) hl⟩
theorem run_on (h : NoRun P m q many) (hm : 1 ≤ many) {u v : Nat} (hqu : q ≤ u) (hu : ∀ j, q ≤ j → j < u → P j = true) (huv : u ≤ v) (hv : P v = true) (hl : v < u + many) : NoRun P m v many := by
  intro j hj hjv
  by_cases h1 : j < q
  · exact h j hj h1
  · by_cases h2 : j < u
    · exact ⟨0, by omega, hu j (by omega) h2⟩
    · exact ⟨v - j, by omega, by rw [show j + (v - j) = v by omega]; exact hv⟩
end
section
variable {w w' : World} {base D c b N : Nat} {a : Option Addr} {Wd : Nat → Nat}
/-- What Free tells. -/
abbrev FreeS (Wd : Nat → Nat) (m N : Nat) (r : Option Nat) : Prop := Seek (fun j => bitW Wd j != true) m N r
abbrev NextS (Wd : Nat → Nat) (m N : Nat) (r : Option Nat) : Prop := Seek (fun j => bitW Wd j != false) m N r
theorem free_any (s : BS w base D a c b N Wd) (hT : TabW w) (m : Int) (hm : m ≤ 9223372036854775807) : Calls Tryd.prog 15 #[.pointer (some ⟨D, 0, none⟩), .int .i64 m] w fun e w' =>
    ∃ r, FreeS Wd m.toNat N r ∧ e = .returned (toldO r) ∧ w = w' := by
  go_enter Tryd.func15, Tryd.ntmps15
  go_wp2_with fail
  refine (seek_any s hT (F := 28) (fb := true) (fun xs W => by kernel_rfl) (fun x W hx => flip_free x hx W) m hm).mono ?_
  rintro e w' ⟨r, hr, rfl, rfl⟩
  have HR := Lib.hid hr
  clear hr
  cases r with
  | none =>
    unfold toldO
    go_wp2_with fail
    go_ret2
    exact ⟨none, HR.out, rfl, rfl⟩
  | some i =>
    unfold toldO
    go_wp2_with fail
    go_ret2
    exact ⟨some i, HR.out, rfl, rfl⟩
theorem next_any (s : BS w base D a c b N Wd) (hT : TabW w) (m : Int) (hm : m ≤ 9223372036854775807) : Calls Tryd.prog 12 #[.pointer (some ⟨D, 0, none⟩), .int .i64 m] w fun e w' =>
    ∃ r, NextS Wd m.toNat N r ∧ e = .returned (toldO r) ∧ w = w' := by
  go_enter Tryd.func12, Tryd.ntmps12
  go_wp2_with fail
  refine (seek_any s hT (F := 27) (fb := false) (fun xs W => by kernel_rfl) (fun x W hx => flip_next x W) m hm).mono ?_
  rintro e w' ⟨r, hr, rfl, rfl⟩
  have HR := Lib.hid hr
  clear hr
  cases r with
  | none =>
    unfold toldO
    go_wp2_with fail
    go_ret2
    exact ⟨none, HR.out, rfl, rfl⟩
  | some i =>
    unfold toldO
    go_wp2_with fail
    go_ret2
    exact ⟨some i, HR.out, rfl, rfl⟩
set_option maxHeartbeats 2000000 in
theorem run_any (s : BS w base D a c b N Wd) (hT : TabW w) (m many : Int) (hm : m ≤ 9223372036854775807) : Calls Tryd.prog 10 #[.pointer (some ⟨D, 0, none⟩), .int .i64 m, .int .i64 many] w fun e w' =>
    ∃ r, RunI (bitW Wd) m many N r ∧ e = .returned (toldO r) ∧ w = w' := by
  have hle := s.le
  have s1 := s.s1
  by_cases h1 : many < 1
  · have HR := Lib.hid (show RunI (bitW Wd) m many N none from ⟨fun h => by omega, fun _ => rfl⟩)
    have d1 : decide (many < 1) = true := by simp; omega
    go_enter Tryd.func10, Tryd.ntmps10
    go_wp2_with (go_at_call 11; refine (size_any s).mono ?_; rintro e w' ⟨rfl, rfl⟩)
    go_ret2
    exact ⟨none, HR.out, rfl, rfl⟩
  · have d1 : decide (many < 1) = false := by simp; omega
    by_cases h2 : (N : Int) < many
    · have HR := Lib.hid (show RunI (bitW Wd) m many N none from ⟨fun h => ⟨fun i e => (by cases e), fun _ j hj hl => by omega⟩, fun _ => rfl⟩)
      have d2 : decide ((N : Int) < many) = true := by simp; omega
      go_enter Tryd.func10, Tryd.ntmps10
      go_wp2_with (go_at_call 11; refine (size_any s).mono ?_; rintro e w' ⟨rfl, rfl⟩)
      go_ret2
      exact ⟨none, HR.out, rfl, rfl⟩
    · have d2 : decide ((N : Int) < many) = false := by simp; omega
      obtain ⟨M, rfl⟩ := Int.eq_ofNat_of_zero_le (by omega : 0 ≤ many)
      have hM : 1 ≤ M := by omega
      have hfin : ∀ r, RunS (bitW Wd) m.toNat M N r → RunI (bitW Wd) m M N r := fun r h => ⟨fun _ => by simpa using h, fun h => by omega⟩
      have HFIN := Lib.hid hfin
      clear hfin
      have d2' : decide (N < M) = false := by simp; omega
      go_enter Tryd.func10, Tryd.ntmps10
      go_wp2_with (go_at_call 11; refine (size_any s).mono ?_; rintro e w' ⟨rfl, rfl⟩)
      go_loopw [1] (fun v wr => ∃ q : Int, v = .int .i64 q ∧ w = wr ∧ q ≤ 9223372036854775807 ∧ m.toNat ≤ q.toNat ∧ NoRun (bitW Wd) m.toNat q.toNat M) (fun v _ => N - (intOf v).toNat)
      case atStart => exact ⟨m, rfl, rfl, hm, Nat.le_refl _, fun j h1 h2 => by omega⟩
      case round =>
        obtain ⟨q, rfl, rfl, hq, hmq, hno⟩ := hrel
        have hN0 : (N : Int) ≤ 65536 := by omega
        go_wp2_with fail
        refine (free_any s hT q hq).mono ?_
        rintro e w' ⟨r, hr, rfl, rfl⟩
        cases r with
        | none =>
          have HR := Lib.hid (HFIN.out none (run_none (u := N) hno hM (fun j h1 h2 => by simpa using hr.none rfl j h1 h2) (by omega)))
          clear hr hno
          unfold toldO
          go_wp2_with fail
          go_ret2
          exact ⟨none, HR.out, rfl, rfl⟩
        | some u =>
          obtain ⟨hu1, hu2, hu3, hu4⟩ := hr.some u rfl
          have hu5 : ∀ j, q.toNat ≤ j → j < u → bitW Wd j = true := fun j h1 h2 => by simpa using hu4 j h1 h2
          have hu6 : bitW Wd u = false := by simpa using hu3
          clear hu4 hu3 hr
          have hMN : (M : Int) ≤ (N : Int) := by omega
          by_cases huN : N < u + M
          · have HR := Lib.hid (HFIN.out none (run_none hno hM hu5 huN))
            have d3 : decide ((N : Int) - (M : Int) < (u : Int)) = true := by simp; omega
            clear hu5 hu6 hno
            unfold toldO
            go_wp2_with fail
            go_ret2
            exact ⟨none, HR.out, rfl, rfl⟩
          · have d3 : decide ((N : Int) - (M : Int) < (u : Int)) = false := by simp; omega
            have HU5 := Lib.hid hu5
            have HU6 := Lib.hid hu6
            have HNO := Lib.hid hno
            clear hu5 hu6 hno
            unfold toldO
            go_wp2_with fail
            refine (next_any s hT u (by omega)).mono ?_
            rintro e w' ⟨r, hr, rfl, rfl⟩
            cases r with
            | none =>
              have HR := Lib.hid (HFIN.out (some u) (run_some HNO.out hmq hM hu1 HU5.out (by omega) (fun k hk => by simpa using hr.none rfl (u + k) (by simp) (by omega))))
              clear hr
              unfold toldO
              go_wp2_with fail
              go_ret2
              exact ⟨some u, HR.out, rfl, rfl⟩
            | some v =>
              obtain ⟨hv1, hv2, hv3, hv4⟩ := hr.some v rfl
              rw [Int.toNat_natCast] at hv1 hv4
              have hv5 : bitW Wd v = true := by simpa using hv3
              have hv6 : ∀ j, u ≤ j → j < v → bitW Wd j = false := fun j h1 h2 => by simpa using hv4 j h1 h2
              clear hr hv3 hv4
              by_cases hlt : u + M ≤ v
              · have HR := Lib.hid (HFIN.out (some u) (run_some HNO.out hmq hM hu1 HU5.out (by omega) (fun k hk => hv6 (u + k) (by omega) (by omega))))
                have d4 : decide ((M : Int) ≤ (v : Int) - (u : Int)) = true := by simp; omega
                clear hv5 hv6
                unfold toldO
                go_wp2_with fail
                go_ret2
                exact ⟨some u, HR.out, rfl, rfl⟩
              · have huv : u ≠ v := by rintro rfl; rw [HU6.out] at hv5; cases hv5
                have HN2 := Lib.hid (run_on HNO.out hM hu1 HU5.out hv1 hv5 (by omega))
                have d4 : decide ((M : Int) ≤ (v : Int) - (u : Int)) = false := by simp; omega
                clear hv5 hv6
                unfold toldO
                go_wp2_with fail
                go_roundw
                case rel => exact ⟨(v : Int), rfl, trivial, by omega, by omega, by rw [Int.toNat_natCast]; exact HN2.out⟩
                case measure => simp [intOf]; omega
end
end Go.Proofs.YtcjlcbnjkkglbaaDoor
