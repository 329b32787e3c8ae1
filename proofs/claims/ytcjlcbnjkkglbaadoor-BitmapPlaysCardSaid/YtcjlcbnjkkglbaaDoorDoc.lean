/-
  The document's set in memory, and the walks of its methods.
-/
import Derived.Test.YtcjlcbnjkkglbaaDoorLen
import Derived.Test.YtcjlcbnjkkglbaaDoorApart
namespace Go.Proofs.YtcjlcbnjkkglbaaDoor
open Go.RowKit
def boolL (N : Nat) (P : Nat → Bool) : List Value := (List.range N).map fun i => .bool (P i)
theorem boolL_get (N : Nat) (P : Nat → Bool) (i : Nat) : (boolL N P)[i]? = if i < N then some (.bool (P i)) else none := by
  unfold boolL
  rw [List.getElem?_map]
  by_cases h : i < N
  · rw [List.getElem?_range h, if_pos h]; rfl
  · rw [List.getElem?_eq_none (by simpa using h), if_neg h]; rfl
theorem boolL_set (N : Nat) (P : Nat → Bool) (k : Nat) (v : Bool) : (boolL N P).set k (.bool v) = boolL N (fun j => if j = k then v else P j) := by
  apply List.ext_getElem?
  intro i
  rw [List.getElem?_set, boolL_get, boolL_get]
  have hl : (boolL N P).length = N := by simp [boolL]
  rw [hl]
  by_cases h : k = i
  · subst h; simp
  · rw [if_neg h]
    have h' : ¬ i = k := fun e => h e.symm
    simp [h']
theorem own_bools {w : World} {base : Nat} (hb : base ≤ w.heap.size) {n : Nat} (hn : n ≤ maxLen) : OwnAt (w.alloc (.cells (madeCells #[.bool false] (n * 1)) 4)) base 4 1 (some ⟨w.heap.size, 0, none⟩) n n w.heap.size (boolL n fun _ => false) := by
  have hl : (madeCells #[.bool false] (n * 1)).size = n * 1 := size_madeCells _ _
  have h := World.ownsRow_lit (base := base) (e := 4) (size := 1) w (madeCells #[.bool false] (n * 1)) n hb hn hl
  have hx : (madeCells #[.bool false] (n * 1)).toList = boolL n fun _ => false := by
    apply List.ext_getElem?
    intro i
    rw [boolL_get, Array.getElem?_toList]
    unfold madeCells
    rw [Array.getElem?_map, Array.getElem?_range, Nat.mul_one]
    split
    · simp [Nat.mod_one]
    · rfl
  rw [hx] at h
  exact ⟨h, fun _ => rfl, fun b hb' => by cases hb'; exact ⟨rfl, hb, by simp⟩⟩
/-- The document's set: N bools at X. -/
structure DB (w : World) (base X N : Nat) (Wd : Nat → Nat) : Prop where
  own : OwnAt w base 4 1 (some ⟨X, 0, none⟩) N N X (boolL N (bitW Wd))
  le : N ≤ 65536
section
variable {w w' : World} {base X N : Nat} {Wd : Nat → Nat}
theorem DB.lt (s : DB w base X N Wd) : base ≤ X ∧ X < w.heap.size := (s.own.blk _ rfl).2
theorem DB.cell (s : DB w base X N Wd) {i : Nat} (h : i < N) : w.cell? ⟨X, i, none⟩ = some (.bool (bitW Wd i)) := s.own.cell (by rw [boolL_get, if_pos h])
theorem DB.below (s : DB w base X N Wd) (k : Below w.heap.size w w') : DB w' base X N Wd := ⟨s.own.below k, s.le⟩
theorem DB.only (s : DB w base X N Wd) {d : Nat} (k : Only w w' d) (h : X ≠ d) : DB w' base X N Wd := ⟨s.own.only k (fun _ => h), s.le⟩
theorem DB.set (s : DB w base X N Wd) {k : Nat} (hk : k < N) {v : Bool} {Wd' : Nat → Nat} (hW : ∀ j, bitW Wd' j = if j = k then v else bitW Wd j) : DB (w.setCell ⟨X, k, none⟩ (.bool v)) base X N Wd' := by
  refine ⟨?_, s.le⟩
  have := s.own.set (by omega) k (.bool v) (by omega)
  rw [boolL_set] at this
  rw [show (bitW Wd') = fun j => if j = k then v else bitW Wd j from funext hW]
  exact this
theorem infoB4 : (Tryd.prog.info? 4).map (fun i => (i.zero, i.size, i.bytes)) = some (some (.bool false), 1, 1) := by kernel_rfl
theorem run_mk36 (n : Nat) (hn : n ≤ 65536) (W : World) : (Instr.makeSlice 36 (.int .i64 (n : Int)) (.int .i64 (n : Int))).run Tryd.prog W = .ok (.slice (some ⟨W.heap.size, 0, none⟩) n n) (W.alloc (.cells (madeCells #[.bool false] (n * 1)) 4)) := by
  obtain ⟨i, hi, hz, hs, hb⟩ := info_parts infoB4
  have := run_make (P := Tryd.prog) W 36 4 i _ Tryd.underlying36 hi hz .i64 .i64 n n (by omega) (by omega) (by rw [hb]; omega) (by omega)
  rw [this, hs]
  simp only [Int.toNat_natCast]
  rfl
theorem doc_new (n : Int) (w : World) (hb : base ≤ w.heap.size) : Calls Tryd.prog 16 #[.int .i64 n] w fun e w' =>
    e = .returned (.slice (some ⟨w.heap.size, 0, none⟩) (clampN n) (clampN n)) ∧ DB w' base w.heap.size (clampN n) k0 ∧ Below w.heap.size w w' := by
  have hfin : ∀ m, m ≤ 65536 → DB (w.alloc (.cells (madeCells #[.bool false] (m * 1)) 4)) base w.heap.size m k0 ∧ Below w.heap.size w (w.alloc (.cells (madeCells #[.bool false] (m * 1)) 4)) := fun m hm => by
    have := own_bools (w := w) hb (n := m) (by unfold maxLen; omega)
    refine ⟨⟨?_, hm⟩, below_new _ _⟩
    rw [show bitW k0 = fun _ => false from funext fun j => by unfold bitW k0; exact Nat.zero_testBit _]
    exact this
  have HF := Lib.hid hfin
  clear hfin
  by_cases h0 : n < 0
  · have e0 : clampN n = 0 := by unfold clampN; rw [if_pos h0]
    rw [e0]; clear e0
    have hmk : ∀ W : World, (Instr.makeSlice 36 (.int .i64 0) (.int .i64 0)).run Tryd.prog W = .ok (.slice (some ⟨W.heap.size, 0, none⟩) 0 0) (W.alloc (.cells (madeCells #[.bool false] (0 * 1)) 4)) := run_mk36 0 (by omega)
    go_enter Tryd.func16, Tryd.ntmps16
    go_wp2
    go_ret
    exact ⟨rfl, HF.out 0 (by omega)⟩
  · by_cases h1 : 65536 < n
    · have e0 : clampN n = 65536 := by unfold clampN; rw [if_neg h0, if_pos h1]
      rw [e0]; clear e0
      have hmk : ∀ W : World, (Instr.makeSlice 36 (.int .i64 65536) (.int .i64 65536)).run Tryd.prog W = .ok (.slice (some ⟨W.heap.size, 0, none⟩) 65536 65536) (W.alloc (.cells (madeCells #[.bool false] (65536 * 1)) 4)) := run_mk36 65536 (by omega)
      go_enter Tryd.func16, Tryd.ntmps16
      go_wp2
      go_ret
      exact ⟨rfl, HF.out 65536 (by omega)⟩
    · obtain ⟨k, rfl⟩ := Int.eq_ofNat_of_zero_le (by omega : 0 ≤ n)
      have e0 : clampN k = k := by unfold clampN; rw [if_neg h0, if_neg h1]; simp
      rw [e0]; clear e0
      have hmk := run_mk36 k (by omega)
      go_enter Tryd.func16, Tryd.ntmps16
      go_wp2
      go_ret
      exact ⟨rfl, by have := HF.out k (by omega); rw [Nat.mul_one] at this; exact this⟩
theorem not_own {N : Nat} {i : Int} (h : ownB N i = false) : i < 0 ∨ (0 ≤ i ∧ (N : Int) ≤ i) := by
  unfold ownB at h
  have := of_decide_eq_false h
  omega
theorem doc_has (s : DB w base X N Wd) (i : Int) : Calls Tryd.prog 21 #[.slice (some ⟨X, 0, none⟩) N N, .int .i64 i] w fun e w' => e = .returned (.bool (hasB N Wd i)) ∧ w = w' := by
  have hle := s.le
  cases ho : ownB N i with
  | false =>
    have e0 : hasB N Wd i = false := by unfold hasB; rw [ho]; rfl
    rw [e0]
    rcases not_own ho with h | ⟨h1, h2⟩
    · have d1 : decide (0 ≤ i) = false := by simp; omega
      clear ho e0
      go_enter Tryd.func21, Tryd.ntmps21
      go_wp2
      go_ret
      exact ⟨rfl, rfl⟩
    · have d1 : decide (0 ≤ i) = true := by simp; omega
      have d2 : decide (i < (N : Int)) = false := by simp; omega
      clear ho e0
      go_enter Tryd.func21, Tryd.ntmps21
      go_wp2
      go_ret
      exact ⟨rfl, rfl⟩
  | true =>
    obtain ⟨k, rfl, hk⟩ := ownB_true ho
    have c := s.cell hk
    rw [hasB_of hk]
    clear ho
    go_enter Tryd.func21, Tryd.ntmps21
    go_wp2
    go_ret
    exact ⟨rfl, rfl⟩
theorem doc_put (s : DB w base X N Wd) (i : Int) {e : Int} (he : putE N Wd i = e) {Wd' : Nat → Nat} (hW : (if e = 0 then putW Wd i.toNat else Wd) = Wd') : Calls Tryd.prog 17 #[.slice (some ⟨X, 0, none⟩) N N, .int .i64 i] w fun r w' =>
    r = .returned (.int .i64 e) ∧ DB w' base X N Wd' ∧ Only w w' X := by
  have hle := s.le
  cases ho : ownB N i with
  | false =>
    have e0 : putE N Wd i = 2 := by unfold putE; rw [ho]; rfl
    rw [e0] at he
    subst he
    rw [if_neg (by decide)] at hW
    subst hW
    rcases not_own ho with h | ⟨h1, h2⟩
    · have d1 : decide (i < 0) = true := by simp; omega
      clear ho e0
      go_enter Tryd.func17, Tryd.ntmps17
      go_wp2
      go_ret
      exact ⟨rfl, s, only_refl _ _⟩
    · have d1 : decide (i < 0) = false := by simp; omega
      have d2 : decide ((N : Int) ≤ i) = true := by simp; omega
      clear ho e0
      go_enter Tryd.func17, Tryd.ntmps17
      go_wp2
      go_ret
      exact ⟨rfl, s, only_refl _ _⟩
  | true =>
    obtain ⟨k, rfl, hk⟩ := ownB_true ho
    have c := s.cell hk
    cases hb : bitW Wd k with
    | true =>
      have e0 : putE N Wd k = 8 := by unfold putE; rw [ho, hasB_of hk, hb]; rfl
      rw [e0] at he
      subst he
      rw [if_neg (by decide)] at hW
      subst hW
      rw [hb] at c
      clear ho e0 hb
      go_enter Tryd.func17, Tryd.ntmps17
      go_wp2
      go_ret
      exact ⟨rfl, s, only_refl _ _⟩
    | false =>
      have e0 := putE_ok hk hb
      rw [e0] at he
      subst he
      rw [if_pos rfl, Int.toNat_natCast] at hW
      subst hW
      rw [hb] at c
      have fz := s.own.frozen (by omega) k
      have HF := Lib.hid (s.set hk (v := true) (Wd' := putW Wd k) (fun j => by
        rw [bit_put]
        by_cases h : j = k <;> simp [h]))
      clear ho e0 hb
      go_enter Tryd.func17, Tryd.ntmps17
      go_wp2
      go_ret
      exact ⟨rfl, HF.out, only_set (only_refl _ _) _ _⟩
theorem doc_take (s : DB w base X N Wd) (i : Int) {e : Int} (he : takeE N Wd i = e) {Wd' : Nat → Nat} (hW : (if e = 0 then takeW Wd i.toNat else Wd) = Wd') : Calls Tryd.prog 18 #[.slice (some ⟨X, 0, none⟩) N N, .int .i64 i] w fun r w' =>
    r = .returned (.int .i64 e) ∧ DB w' base X N Wd' ∧ Only w w' X := by
  have hle := s.le
  cases ho : ownB N i with
  | false =>
    have e0 : takeE N Wd i = 2 := by unfold takeE; rw [ho]; rfl
    rw [e0] at he
    subst he
    rw [if_neg (by decide)] at hW
    subst hW
    rcases not_own ho with h | ⟨h1, h2⟩
    · have d1 : decide (i < 0) = true := by simp; omega
      clear ho e0
      go_enter Tryd.func18, Tryd.ntmps18
      go_wp2
      go_ret
      exact ⟨rfl, s, only_refl _ _⟩
    · have d1 : decide (i < 0) = false := by simp; omega
      have d2 : decide ((N : Int) ≤ i) = true := by simp; omega
      clear ho e0
      go_enter Tryd.func18, Tryd.ntmps18
      go_wp2
      go_ret
      exact ⟨rfl, s, only_refl _ _⟩
  | true =>
    obtain ⟨k, rfl, hk⟩ := ownB_true ho
    have c := s.cell hk
    cases hb : bitW Wd k with
    | false =>
      have e0 : takeE N Wd k = 7 := by unfold takeE; rw [ho, hasB_of hk, hb]; rfl
      rw [e0] at he
      subst he
      rw [if_neg (by decide)] at hW
      subst hW
      rw [hb] at c
      clear ho e0 hb
      go_enter Tryd.func18, Tryd.ntmps18
      go_wp2
      go_ret
      exact ⟨rfl, s, only_refl _ _⟩
    | true =>
      have e0 := takeE_ok hk hb
      rw [e0] at he
      subst he
      rw [if_pos rfl, Int.toNat_natCast] at hW
      subst hW
      rw [hb] at c
      have fz := s.own.frozen (by omega) k
      have HF := Lib.hid (s.set hk (v := false) (Wd' := takeW Wd k) (fun j => by
        rw [bit_take]
        by_cases h : j = k <;> simp [h]))
      clear ho e0 hb
      go_enter Tryd.func18, Tryd.ntmps18
      go_wp2
      go_ret
      exact ⟨rfl, HF.out, only_set (only_refl _ _) _ _⟩
end
/-- Some bools in a row can be read: the slice at X, o. -/
structure RdB (w : World) (a : Option Addr) (m : Nat) (P : Nat → Bool) (o : Nat) : Prop where
  at_ : 0 < m → ∃ X o', a = some ⟨X, o', none⟩ ∧ ∀ i, i < m → w.cell? ⟨X, o' + i, none⟩ = some (.bool (P (o + i)))
set_option maxHeartbeats 1000000 in
theorem doc_len {w : World} {a : Option Addr} {m c o : Nat} {P : Nat → Bool} (h : RdB w a m P o) (hm : m ≤ 65536) (hmc : m ≤ c) (hc : c ≤ 65536) : Calls Tryd.prog 30 #[.slice a m c] w fun e w' => e = .returned (.int .i64 (cntP P o m)) ∧ w = w' := by
  go_enter Tryd.func30, Tryd.ntmps30
  go_wp2_with fail
  go_loop [3, 4] (fun n i => ∃ k : Nat, k ≤ m ∧ i = .int .i64 k ∧ n = .int .i64 (cntP P o k)) (fun _ i => m - (intOf i).toNat)
  case atStart => exact ⟨0, Nat.zero_le _, rfl, rfl⟩
  case round =>
    obtain ⟨k, hk, rfl, rfl⟩ := hrel
    have hle := cntP_le P o k
    by_cases hlt : k < m
    · obtain ⟨X, o', rfl, hcell⟩ := h.at_ (by omega)
      have c1 := hcell k hlt
      have E := cntP_succ P o k
      clear hcell
      cases hb : P (o + k) with
      | true =>
        rw [hb] at c1 E
        have EE := Lib.hid E
        clear E hb
        go_wp2
        go_round
        case rel => exact ⟨k + 1, by omega, by go_num, by rw [EE.out]; go_num⟩
        case measure => simp [intOf]; omega
      | false =>
        rw [hb] at c1 E
        have EE := Lib.hid E
        clear E hb
        go_wp2
        go_round
        case rel => exact ⟨k + 1, by omega, by go_num, by rw [EE.out]; simp⟩
        case measure => simp [intOf]; omega
    · have hkm : k = m := by omega
      subst hkm
      go_wp2
      go_ret
      exact ⟨rfl, rfl⟩
/-- What the document's Run tells, of numbers that are (or are not) in it. -/
abbrev RunD (Wd : Nat → Nat) (inn : Bool) (m many : Int) (N : Nat) (r : Option Nat) : Prop := RunI (fun j => bitW Wd j != inn) m many N r
def allB (P : Nat → Bool) (i k : Nat) : Bool := decide (∀ j, j < k → P (i + j) = false)
theorem allB_zero (P : Nat → Bool) (i : Nat) : allB P i 0 = true := by unfold allB; simp
theorem allB_ok {P : Nat → Bool} {i k : Nat} (h : P (i + k) = false) : allB P i (k + 1) = allB P i k := by
  unfold allB
  apply decide_eq_decide.2
  constructor
  · intro h2 j hj; exact h2 j (by omega)
  · intro h2 j hj
    by_cases e : j = k
    · rw [e]; exact h
    · exact h2 j (by omega)
theorem allB_bad {P : Nat → Bool} {i k : Nat} (h : P (i + k) = true) : allB P i (k + 1) = false := by
  unfold allB
  apply decide_eq_false
  intro h2
  have := h2 k (by omega)
  rw [h] at this; cases this
set_option maxHeartbeats 4000000 in
theorem doc_run {w : World} {base X N : Nat} {Wd : Nat → Nat} (s : DB w base X N Wd) (m many : Int) (inn : Bool) (hm : m ≤ 9223372036854775807) : Calls Tryd.prog 19 #[.slice (some ⟨X, 0, none⟩) N N, .int .i64 m, .int .i64 many, .bool inn] w fun e w' =>
    ∃ r, RunD Wd inn m many N r ∧ e = .returned (toldO r) ∧ w = w' := by
  have hle := s.le
  by_cases h1 : many < 1
  · have HR := Lib.hid (show RunD Wd inn m many N none from ⟨fun h => by omega, fun _ => rfl⟩)
    have d1 : decide (1 ≤ many) = false := by simp; omega
    by_cases hneg : m < 0
    · go_enter Tryd.func19, Tryd.ntmps19
      go_wp2_with fail
      refine wp_loop_rounds 1 ?_
      rw [rounds_succ]
      go_wp2_with fail
      go_ret2
      exact ⟨none, HR.out, rfl, rfl⟩
    · have dneg : decide (m < 0) = false := by simp; omega
      go_enter Tryd.func19, Tryd.ntmps19
      go_wp2_with fail
      refine wp_loop_rounds 1 ?_
      rw [rounds_succ]
      go_wp2_with fail
      go_ret2
      exact ⟨none, HR.out, rfl, rfl⟩
  · obtain ⟨M, rfl⟩ := Int.eq_ofNat_of_zero_le (by omega : 0 ≤ many)
    have hM : 1 ≤ M := by omega
    have hfin : ∀ r, RunS (fun j => bitW Wd j != inn) m.toNat M N r → RunD Wd inn m M N r := fun r h => ⟨fun _ => by simpa using h, fun h => by omega⟩
    have HFIN := Lib.hid hfin
    obtain ⟨q, hq⟩ : ∃ q : Nat, q = m.toNat := ⟨_, rfl⟩
    rw [← hq] at HFIN
    have HQ := Lib.hid hq
    clear hfin hq
    have hle2 : (N : Int) ≤ 65536 := by omega
    go_enter Tryd.func19, Tryd.ntmps19
    go_upto_if 14 with fail
    go_cut [1] from 13 to 14 (fun v wx => v = .int .i64 (q : Int) ∧ w = wx)
    case first =>
      rcases Decidable.em (m < 0) with hneg | hneg
      · have HQ0 := Lib.hid (show q = 0 by have := HQ.out; omega)
        have d0 : decide (m < 0) = true := by simp; omega
        go_wp2_with fail
        go_meet
        exact ⟨by rw [HQ0.out]; rfl, rfl⟩
      · have HQ0 := Lib.hid (show m = (q : Int) by have := HQ.out; omega)
        have d0 : decide (m < 0) = false := by simp; omega
        go_wp2_with fail
        go_meet
        exact ⟨by rw [HQ0.out], rfl⟩
    case rest =>
    obtain ⟨rfl, rfl⟩ := hcut
    go_wp2_with fail
    go_loop [10, 11, 12] (fun i _ _ => ∃ i' : Nat, i = .int .i64 i' ∧ q ≤ i' ∧ (i' : Int) ≤ 9223372036854775807 ∧ NoRun (fun j => bitW Wd j != inn) q i' M) (fun i _ _ => N + 1 - (intOf i).toNat)
    case atStart => exact ⟨q, rfl, Nat.le_refl _, by have := HQ.out; omega, fun j h1 h2 => by omega⟩
    case round =>
      obtain ⟨i, rfl, hqi, hi64, hno⟩ := hrel
      have HNO := Lib.hid hno
      clear hno
      have dM : decide ((1 : Int) ≤ (M : Int)) = true := by simp; omega
      by_cases hiM : i + M ≤ N
      · have d1 : decide ((i : Int) < (N : Int)) = true := by simp; omega
        have d1' : decide (i < N) = true := by simp; omega
        have d2 : decide ((M : Int) ≤ (N : Int) - (i : Int)) = true := by simp; omega
        go_wp2_with fail
        go_loop [11, 12] (fun al kk => ∃ k : Nat, k ≤ M ∧ kk = .int .i64 k ∧ al = .bool (allB (fun j => bitW Wd j != inn) i k)) (fun _ kk => M - (intOf kk).toNat)
        case atStart => exact ⟨0, Nat.zero_le _, rfl, by rw [allB_zero]⟩
        case round =>
          obtain ⟨k, hk, rfl, rfl⟩ := hrel
          by_cases hkM : k < M
          · have c1 := s.cell (i := i + k) (by omega)
            have HC := Lib.hid (show ((i + k : Nat) : Int) = (i : Int) + (k : Int) by omega)
            cases hb : (bitW Wd (i + k) != inn) with
            | true =>
              have E := Lib.hid (allB_bad (P := fun j => bitW Wd j != inn) (i := i) (k := k) hb)
              have hb2 : bitW Wd (i + k) = !inn := by revert hb; cases bitW Wd (i + k) <;> cases inn <;> simp
              rw [hb2] at c1
              clear hb hb2
              cases inn
              all_goals
                go_wp2
                go_round
                case rel => exact ⟨k + 1, by omega, by go_num, by rw [E.out]⟩
                case measure => simp [intOf]; omega
            | false =>
              have E := Lib.hid (allB_ok (P := fun j => bitW Wd j != inn) (i := i) (k := k) hb)
              have hb2 : bitW Wd (i + k) = inn := by revert hb; cases bitW Wd (i + k) <;> cases inn <;> simp
              rw [hb2] at c1
              clear hb hb2
              cases inn
              all_goals
                go_wp2
                go_round
                case rel => exact ⟨k + 1, by omega, by go_num, by rw [E.out]⟩
                case measure => simp [intOf]; omega
          · have hkm : k = M := by omega
            subst hkm
            have dk : decide ((k : Int) < (k : Int)) = false := by simp
            have dk2 : decide (k < k) = false := by simp
            cases hal : allB (fun j => bitW Wd j != inn) i k with
            | true =>
              have hal2 : ∀ j, j < k → (fun j => bitW Wd j != inn) (i + j) = false := of_decide_eq_true hal
              have HR := Lib.hid (HFIN.out (some i) (run_some HNO.out hqi hM (Nat.le_refl i) (fun j h1 h2 => by omega) hiM hal2))
              clear hal hal2
              go_wp2
              go_ret2
              exact ⟨some i, HR.out, rfl, rfl⟩
            | false =>
              have HN2 := Lib.hid (show NoRun (fun j => bitW Wd j != inn) q (i + 1) k from fun j h1 h2 => by
                by_cases hji : j < i
                · exact HNO.out j h1 hji
                · obtain rfl : j = i := by omega
                  have h3 : ¬ ∀ t, t < k → (fun j => bitW Wd j != inn) (j + t) = false := of_decide_eq_false hal
                  apply Classical.byContradiction
                  intro h4
                  refine h3 fun t ht => ?_
                  cases hp : (fun j => bitW Wd j != inn) (j + t) with
                  | false => rfl
                  | true => exact absurd ⟨t, ht, hp⟩ h4)
              clear hal
              go_wp2
              go_round
              case rel => exact ⟨i + 1, by go_num, by omega, by omega, HN2.out⟩
              case measure => simp [intOf]; omega
      · have HR := Lib.hid (HFIN.out none (run_none (u := i) HNO.out hM (fun j h1 h2 => by omega) (by omega)))
        by_cases hiN : i < N
        · have d1 : decide ((i : Int) < (N : Int)) = true := by simp; omega
          have d1' : decide (i < N) = true := by simp; omega
          have d2 : decide ((M : Int) ≤ (N : Int) - (i : Int)) = false := by simp; omega
          go_wp2
          go_ret2
          exact ⟨none, HR.out, rfl, rfl⟩
        · have d1 : decide ((i : Int) < (N : Int)) = false := by simp; omega
          have d1' : decide (i < N) = false := by simp; omega
          go_wp2
          go_ret2
          exact ⟨none, HR.out, rfl, rfl⟩
theorem seek_unique {P : Nat → Bool} {m N : Nat} {r r' : Option Nat} (h : Seek P m N r) (h' : Seek P m N r') : r = r' := by
  cases r' with
  | some i =>
    obtain ⟨a, b, c, d⟩ := h'.some i rfl
    exact seek_eqSome h a b c d
  | none =>
    cases r with
    | none => rfl
    | some i =>
      obtain ⟨a, b, c, d⟩ := h.some i rfl
      exact (seek_eqSome h' a b c d).symm
theorem runS_unique {P : Nat → Bool} {m M N : Nat} {r r' : Option Nat} (h : RunS P m M N r) (h' : RunS P m M N r') : r = r' := by
  cases r' with
  | some i =>
    obtain ⟨a, b, c, d⟩ := h'.some i rfl
    exact runS_eqSome h a b c d
  | none => exact runS_eqNone h (h'.none rfl)
theorem runI_unique {P P' : Nat → Bool} {m M : Int} {N : Nat} {r r' : Option Nat} (hP : P = P') (h : RunI P m M N r) (h' : RunI P' m M N r') : r = r' := by
  subst hP
  by_cases hM : 1 ≤ M
  · exact runS_unique (h.run hM) (h'.run hM)
  · rw [h.no (by omega), h'.no (by omega)]
/-- A run of one is what is sought. -/
theorem run_one {P : Nat → Bool} {m : Int} {N : Nat} {r : Option Nat} (h : RunI P m 1 N r) : Seek (fun j => !P j) m.toNat N r := by
  have h1 := h.run (by omega)
  refine ⟨fun i e => ?_, fun e j hj hN => ?_⟩
  · obtain ⟨a, b, c, d⟩ := h1.some i e
    have b' : i + 1 ≤ N := b
    refine ⟨a, by omega, ?_, fun j hj hl => ?_⟩
    · have := c 0 (by show 0 < 1; omega)
      rw [Nat.add_zero] at this
      simp [this]
    · obtain ⟨k, hk, hp⟩ := d j hj hl
      obtain rfl : k = 0 := by have : k < 1 := hk; omega
      rw [Nat.add_zero] at hp
      simp [hp]
  · obtain ⟨k, hk, hp⟩ := h1.none e j hj (show j + 1 ≤ N by omega)
    obtain rfl : k = 0 := by have : k < 1 := hk; omega
    rw [Nat.add_zero] at hp
    simp [hp]
theorem free_doc {Wd : Nat → Nat} {m : Int} {N : Nat} {r r' : Option Nat} (h : FreeS Wd m.toNat N r) (h' : RunD Wd false m 1 N r') : r = r' := by
  have := run_one h'
  refine seek_unique h ?_
  rw [show (fun j => bitW Wd j != true) = fun j => !(bitW Wd j != false) from funext fun j => by cases bitW Wd j <;> rfl]
  exact this
theorem next_doc {Wd : Nat → Nat} {m : Int} {N : Nat} {r r' : Option Nat} (h : NextS Wd m.toNat N r) (h' : RunD Wd true m 1 N r') : r = r' := by
  have := run_one h'
  refine seek_unique h ?_
  rw [show (fun j => bitW Wd j != false) = fun j => !(bitW Wd j != true) from funext fun j => by cases bitW Wd j <;> rfl]
  exact this
theorem run_doc {Wd : Nat → Nat} {m M : Int} {N : Nat} {r r' : Option Nat} (h : RunI (bitW Wd) m M N r) (h' : RunD Wd false m M N r') : r = r' :=
  runI_unique (funext fun j => by cases bitW Wd j <;> rfl) h h'
end Go.Proofs.YtcjlcbnjkkglbaaDoor
