/-
  The walk of the law LocksApart.
-/
import Derived.Test.YteafbkgaihjieaaApartP
import Derived.Test.YteafbkgaihjieaaOpen
namespace Go.Proofs.Yteafbkgaihjieaa
open Go.RowKit

theorem only_alloc' {w w' : World} {b : Nat} (o : Obj) (h : Only (w.alloc o) w' b) : Only w w' b :=
  ⟨h.os, h.tape, h.output, Nat.le_trans (by simp) h.size, fun i hi hne => (h.block i (by simp; omega) hne).trans (Below.heap_alloc w o i hi)⟩
theorem Tab.alloc {w : World} {b n : Nat} {h : Hold} (t : Tab w b n h) (o : Obj) : Tab (w.alloc o) b n h := ⟨t.row.alloc o, t.le, t.ok⟩
theorem free_eq {w : World} {b n : Nat} {h : Hold} (t : Tab w b n h) (who lock : Int) (hwho : who ≤ 9223372036854775807) {k : Int} {h' : Hold} (e : freeF n h who lock = (k, h')) :
    Calls Try.prog 11 #[.pointer (some ⟨b, 0, none⟩), .int .i64 who, .int .i64 lock] w fun e w' => e = .returned (.int .i64 k) ∧ Tab w' b n h' ∧ Only w w' b := by
  have := free_any b n h who lock w t hwho
  rwa [e] at this

theorem do_any (b n : Nat) (h : Hold) (k who lock : Int) (w : World) (t : Tab w b n h) (hwho : who ≤ 9223372036854775807) :
    Calls Try.prog 16 #[.pointer (some ⟨b, 0, none⟩), .agg #[.int .i64 k, .int .i64 who, .int .i64 lock]] w fun e w' =>
      e = .returned (.tuple #[.bool (doF n h k who lock).1, .int .i64 (doF n h k who lock).2.1]) ∧ Tab w' b n (doF n h k who lock).2.2 ∧ Only w w' b := by
  by_cases hk : k = 1
  · have e0 : doF n h k who lock = (false, (freeF n h who lock).1, (freeF n h who lock).2) := by unfold doF; rw [if_pos hk]
    rw [e0]; clear e0
    have q : (k == 1) = true := by rw [hk]; rfl
    clear hk
    go_enter Try.func16, Try.ntmps16
    go_wp2_with fail
    refine (free_any b n h who lock _ (t.alloc _) hwho).mono ?_
    rintro e w' ⟨rfl, t', o'⟩
    go_wp2_with fail
    go_ret2
    exact ⟨rfl, t', only_alloc' _ o'⟩
  · have e0 : doF n h k who lock = tryF n h who lock := by unfold doF; rw [if_neg hk]
    rw [e0]; clear e0
    have q : (k == 1) = false := beq_eq_false_iff_ne.2 hk
    clear hk
    go_enter Try.func16, Try.ntmps16
    go_wp2_with fail
    refine (try_any b n h who lock _ (t.alloc _) hwho).mono ?_
    rintro e w' ⟨rfl, t', o'⟩
    go_wp2_with fail
    go_ret2
    exact ⟨rfl, t', only_alloc' _ o'⟩

theorem two_boxes (w : World) (ka wa la kb wb lb : Int) :
    ((w.alloc (Obj.cells #[Value.int .i64 ka, Value.int .i64 wa, Value.int .i64 la] 27)).alloc (Obj.cells #[Value.int .i64 kb, Value.int .i64 wb, Value.int .i64 lb] 27)).cell? ⟨w.heap.size, 0, none⟩ = some (.int .i64 ka) ∧
    ((w.alloc (Obj.cells #[Value.int .i64 ka, Value.int .i64 wa, Value.int .i64 la] 27)).alloc (Obj.cells #[Value.int .i64 kb, Value.int .i64 wb, Value.int .i64 lb] 27)).cell? ⟨w.heap.size, 1, none⟩ = some (.int .i64 wa) ∧
    ((w.alloc (Obj.cells #[Value.int .i64 ka, Value.int .i64 wa, Value.int .i64 la] 27)).alloc (Obj.cells #[Value.int .i64 kb, Value.int .i64 wb, Value.int .i64 lb] 27)).cell? ⟨w.heap.size, 2, none⟩ = some (.int .i64 la) ∧
    ((w.alloc (Obj.cells #[Value.int .i64 ka, Value.int .i64 wa, Value.int .i64 la] 27)).alloc (Obj.cells #[Value.int .i64 kb, Value.int .i64 wb, Value.int .i64 lb] 27)).cell? ⟨w.heap.size + 1, 0, none⟩ = some (.int .i64 kb) ∧
    ((w.alloc (Obj.cells #[Value.int .i64 ka, Value.int .i64 wa, Value.int .i64 la] 27)).alloc (Obj.cells #[Value.int .i64 kb, Value.int .i64 wb, Value.int .i64 lb] 27)).cell? ⟨w.heap.size + 1, 1, none⟩ = some (.int .i64 wb) ∧
    ((w.alloc (Obj.cells #[Value.int .i64 ka, Value.int .i64 wa, Value.int .i64 la] 27)).alloc (Obj.cells #[Value.int .i64 kb, Value.int .i64 wb, Value.int .i64 lb] 27)).cell? ⟨w.heap.size + 1, 2, none⟩ = some (.int .i64 lb) ∧
    ((w.alloc (Obj.cells #[Value.int .i64 ka, Value.int .i64 wa, Value.int .i64 la] 27)).alloc (Obj.cells #[Value.int .i64 kb, Value.int .i64 wb, Value.int .i64 lb] 27)).heap.size = w.heap.size + 2 := by
  refine ⟨?_, ?_, ?_, ?_, ?_, ?_, ?_⟩ <;> go_simp

set_option maxRecDepth 100000 in
set_option maxHeartbeats 1000000 in
theorem apart_any (n : Int) (a : Option Addr) (len cap bo off : Nat) (K W L : Nat → Int) (ka wa la kb wb lb : Int) (w : World) (o : OpsAt w a len bo off K W L) (hlen : len ≤ 9223372036854775807)
    (hwa : wa ≤ 9223372036854775807) (hwb : wb ≤ 9223372036854775807) :
    Calls Try.prog 4 #[.int .i64 n, .slice a len cap, .agg #[.int .i64 ka, .int .i64 wa, .int .i64 la], .agg #[.int .i64 kb, .int .i64 wb, .int .i64 lb]] w fun e w' => e = .returned (.bool true) ∧ Below w.heap.size w w' := by
  by_cases hl : 60 < len ∨ wa = wb ∨ la = lb
  · rcases Decidable.em (60 < len) with g1 | g1
    · go_enter Try.func4, Try.ntmps4
      go_wp2_with (go_at_call 9; refine (known_any _).mono ?_; rintro e w' ⟨rfl, hb⟩)
      go_ret
      exact ⟨rfl, (((Below.refl _ _).alloc (Nat.le_refl _) _).alloc (by simp) _).trans (hb.mono (by simp; omega))⟩
    · rcases Decidable.em (wa = wb) with g2 | g2
      · subst g2
        go_enter Try.func4, Try.ntmps4
        go_wp2_with (go_at_call 9; refine (known_any _).mono ?_; rintro e w' ⟨rfl, hb⟩)
        go_ret
        exact ⟨rfl, (((Below.refl _ _).alloc (Nat.le_refl _) _).alloc (by simp) _).trans (hb.mono (by simp; omega))⟩
      · obtain rfl : la = lb := by rcases hl with h | h | h <;> first | exact absurd h g1 | exact absurd h g2 | exact h
        have q : (wa == wb) = false := beq_eq_false_iff_ne.2 g2
        go_enter Try.func4, Try.ntmps4
        go_wp2_with (go_at_call 9; refine (known_any _).mono ?_; rintro e w' ⟨rfl, hb⟩)
        go_ret
        exact ⟨rfl, (((Below.refl _ _).alloc (Nat.le_refl _) _).alloc (by simp) _).trans (hb.mono (by simp; omega))⟩
  · have g1 : ¬ 60 < len := fun h => hl (.inl h)
    have g2 : wa ≠ wb := fun h => hl (.inr (.inl h))
    have g3 : la ≠ lb := fun h => hl (.inr (.inr h))
    have G2 := Lib.hid g2
    have G3 := Lib.hid g3
    have q2 : (wa == wb) = false := beq_eq_false_iff_ne.2 g2
    have q3 : (la == lb) = false := beq_eq_false_iff_ne.2 g3
    clear g2 g3 hl
    go_enter Try.func4, Try.ntmps4
    go_wp2_with fail
    have bel0 : Below w.heap.size w ((w.alloc (Obj.cells #[Value.int .i64 ka, Value.int .i64 wa, Value.int .i64 la] 27)).alloc (Obj.cells #[Value.int .i64 kb, Value.int .i64 wb, Value.int .i64 lb] 27)) :=
      ((Below.refl _ _).alloc (Nat.le_refl _) _).alloc (by simp) _
    have o2 := o.below bel0
    obtain ⟨ca0, ca1, ca2, cb0, cb1, cb2, hsz⟩ := two_boxes w ka wa la kb wb lb
    refine (new_st (Below.refl _ _) n rfl).mono ?_
    rintro e w1 ⟨rfl, s1⟩
    clear o
    generalize (w.alloc (Obj.cells #[Value.int .i64 ka, Value.int .i64 wa, Value.int .i64 la] 27)).alloc (Obj.cells #[Value.int .i64 kb, Value.int .i64 wb, Value.int .i64 lb] 27) = W2 at *
    rw [hsz] at s1
    go_wp2_with fail
    generalize hB : w.heap.size + 2 = B at *
    generalize hN : clampN n = N at s1
    have hBle : w.heap.size + 2 ≤ B := by omega
    clear hB
    go_loopw [44] (fun i wr => ∃ k : Nat, k ≤ len ∧ i = .int .i64 k ∧ St W2 wr B N (runT N K W L k)) (fun i _ => len - (intOf i).toNat)
    case atStart => exact ⟨0, Nat.zero_le _, rfl, s1⟩
    case round =>
      obtain ⟨k, hk, rfl, s⟩ := hrel
      by_cases hlt : k < len
      · have o' := o2.below s.below
        have ck := o'.ck k hlt
        have cw := o'.cw k hlt
        have cl := o'.cl k hlt
        obtain rfl := o2.at_ (by omega)
        by_cases hK : K k = 1
        · have q : (K k == 1) = true := by rw [hK]; rfl
          clear hK
          go_wp2_with fail
          go_still_tail 11, (by kernel_rfl)
          change wpList _ _ _ _ _ wr.drew
          go_wp2_with fail
          refine (free_run s.drew (W k) (L k) (o'.wle k hlt)).mono ?_
          rintro e w2 ⟨rfl, s2⟩
          go_wp2_with fail
          go_roundw
          case rel => exact ⟨k + 1, by omega, by go_num, by rw [runT, (beq_iff_eq.1 q)]; exact s2⟩
          case measure => simp [intOf]; omega
        · have q : (K k == 1) = false := beq_eq_false_iff_ne.2 hK
          have HK := Lib.hid hK; clear hK
          go_wp2_with fail
          go_still_tail 11, (by kernel_rfl)
          change wpList _ _ _ _ _ wr.drew
          go_wp2_with fail
          refine (try_run s.drew (K k) (W k) (L k) (o'.wle k hlt) HK.out).mono ?_
          rintro e w2 ⟨rfl, s2⟩
          go_wp2_with fail
          go_roundw
          case rel => exact ⟨k + 1, by omega, by go_num, s2⟩
          case measure => simp [intOf]; omega
      · generalize runT N K W L k = h at s
        clear o2
        go_wp2_with fail
        refine (copy_any B N h wr s.tab).mono ?_
        rintro e w3 ⟨rfl, tu3, b3⟩
        have hBu : B < wr.heap.size := s.tab.lt
        have t3 : Tab w3 B N h := s.tab.below b3
        have e3 : Below W2.heap.size W2 w3 := s.below.trans (b3.mono s.below.size)
        generalize wr.heap.size = U at *
        have hlo : w.heap.size < W2.heap.size := by omega
        have hlo1 : w.heap.size + 1 < W2.heap.size := by omega
        have a0 := (e3.cell (p := ⟨w.heap.size, 0, none⟩) hlo).trans ca0
        have a1 := (e3.cell (p := ⟨w.heap.size, 1, none⟩) hlo).trans ca1
        have a2 := (e3.cell (p := ⟨w.heap.size, 2, none⟩) hlo).trans ca2
        go_wp2_with fail
        refine (do_any B N h ka wa la w3 t3 hwa).mono ?_
        rintro e w4 ⟨rfl, t4, o4⟩
        have tu4 := tu3.only_other o4 (by omega)
        have e4 := below_only e3 o4 s.own
        clear a0 a1 a2 b3 o4 tu3 t3 e3
        have a0 := (e4.cell (p := ⟨w.heap.size + 1, 0, none⟩) hlo1).trans cb0
        have a1 := (e4.cell (p := ⟨w.heap.size + 1, 1, none⟩) hlo1).trans cb1
        have a2 := (e4.cell (p := ⟨w.heap.size + 1, 2, none⟩) hlo1).trans cb2
        go_wp2_with fail
        refine (do_any B N _ kb wb lb w4 t4 hwb).mono ?_
        rintro e w5 ⟨rfl, t5, o5⟩
        have tu5 := tu4.only_other o5 (by omega)
        have e5 := below_only e4 o5 s.own
        clear a0 a1 a2 o5 tu4 t4 e4
        have a0 := (e5.cell (p := ⟨w.heap.size + 1, 0, none⟩) hlo1).trans cb0
        have a1 := (e5.cell (p := ⟨w.heap.size + 1, 1, none⟩) hlo1).trans cb1
        have a2 := (e5.cell (p := ⟨w.heap.size + 1, 2, none⟩) hlo1).trans cb2
        go_wp2_with fail
        refine (do_any U N h kb wb lb w5 tu5 hwb).mono ?_
        rintro e w6 ⟨rfl, tu6, o6⟩
        have t6 := t5.only_other o6 (by omega)
        have hU : W2.heap.size ≤ U := by omega
        have e6 := below_only e5 o6 hU
        clear a0 a1 a2 o6 tu5 t5 e5
        have a0 := (e6.cell (p := ⟨w.heap.size, 0, none⟩) hlo).trans ca0
        have a1 := (e6.cell (p := ⟨w.heap.size, 1, none⟩) hlo).trans ca1
        have a2 := (e6.cell (p := ⟨w.heap.size, 2, none⟩) hlo).trans ca2
        go_wp2_with fail
        refine (do_any U N _ ka wa la w6 tu6 hwa).mono ?_
        rintro e w7 ⟨rfl, tu7, o7⟩
        have t7 := t6.only_other o7 (by omega)
        have e7 := below_only e6 o7 hU
        clear a0 a1 a2 o7 tu6 t6 e6
        obtain ⟨r1, r2⟩ := do_behind N h kb wb lb ka wa la (fun e => G2.out e.symm) (fun e => G3.out e.symm)
        obtain ⟨r3, r4⟩ := do_behind N h ka wa la kb wb lb G2.out G3.out
        rw [do_comm N h ka wa la kb wb lb G2.out G3.out] at t7
        rw [r1, r2, r3, r4]
        clear r1 r2 r3 r4
        generalize (doF N (doF N h kb wb lb).2.2 ka wa la).2.2 = h7 at t7 tu7
        generalize (doF N h ka wa la).1 = x1
        generalize (doF N h ka wa la).2.1 = x2
        generalize (doF N h kb wb lb).1 = x3
        generalize (doF N h kb wb lb).2.1 = x4
        go_wp2_with fail
        refine (locks_any B N h7 w7 t7).mono ?_
        rintro e w' ⟨rfl, rfl⟩
        go_wp2_with fail
        rename_i wq _ _
        go_loop [112] (fun i => ∃ j : Nat, j ≤ N ∧ i = .int .i64 j) (fun i => N - (intOf i).toNat)
        case atStart => exact ⟨0, Nat.zero_le _, rfl⟩
        case round =>
          obtain ⟨j, hj, rfl⟩ := hrel
          have hN' := t7.le
          by_cases hlt : j < N
          · go_wp2_with fail
            refine (holder_any B N h7 j w7 t7).mono ?_
            rintro e w' ⟨rfl, rfl⟩
            go_wp2_with fail
            refine (holder_any U N h7 j w7 tu7).mono ?_
            rintro e w' ⟨rfl, rfl⟩
            generalize holderF N h7 j = y
            go_wp2_with fail
            go_round
            case rel => exact ⟨j + 1, by omega, by go_num⟩
            case measure => simp [intOf]; omega
          · go_wp2_with fail
            refine (known_any w7).mono ?_
            rintro e w' ⟨rfl, hb⟩
            go_wp2_with fail
            go_ret
            exact ⟨rfl, bel0.trans ((e7.trans (hb.mono e7.size)).mono (by omega))⟩
end Go.Proofs.Yteafbkgaihjieaa
