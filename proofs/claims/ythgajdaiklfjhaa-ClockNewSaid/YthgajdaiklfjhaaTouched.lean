/-
  The walk of the law ClockTouched.
-/
import Derived.Test.YthgajdaiklfjhaaRounds
import Derived.Test.YthgajdaiklfjhaaLawsQ
import Derived.Test.YthgajdaiklfjhaaIntsI
namespace Go.Proofs.Ythgajdaiklfjhaa
open Go.RowKit
attribute [local go_sem] Oper.semAt_some

theorem eq_fn36 (a : Fn) (b c : Array Value) (W : World) : Sem.run Try.prog (binOp BinOp.eql 36 (Value.func a b c) Value.nilFunc) W = .ok (.bool false) W := by kernel_rfl
theorem boxed_row {W : World} {b t : Nat} {v : Value} (h : Boxed W b t v) : W.rowIs b t 1 (fun _ => v) := by
  refine ⟨#[v], h, rfl, fun i hi => ?_⟩
  obtain rfl : i = 0 := by omega
  rfl
section
variable {P : Program} (w : World)
theorem step_append_ring {ops : Array Oper} {o : Oper} {ac : Act} {K : Act → World → Prop} {Q : Exit → Act → World → Prop} {E : Prop} (hgd : o.guard = none) (s x : Operand) (t : TypeId)
    (ho : o.op = .call { callee := .builtin .append, args := #[s, x], argTypes := #[t, t] })
    {base e n c g of : Nat} {a : Option Addr} {xs : List Int} {i : TypeInfo} {z : Value} (ht : P.underlying t = some (.slice e)) (hi : P.info? e = some i) (hz : i.zero = some z) (hs : i.size = 1) (hb : i.bytes = 8) (hzc : z.cells.size = 1)
    (h : RingAt w base e a n c g of xs) (hsv : ac.eval s = .slice a n c) {A : Nat} {y : Int} (hxv : ac.eval x = .slice (some ⟨A, 0, none⟩) 1 1) (hA : w.cell? ⟨A, 0, none⟩ = some (.int .i64 y)) (hn : n ≤ 1000000) (hbase : base ≤ w.heap.size)
    (hK : ∀ a' c' g' o' w', RingAt w' base e a' (n + 1) c' g' o' (xs ++ [y]) → a' ≠ none → Moved w w' a g g' → K (ac.put o.dst (.slice a' (n + 1) c')) w') :
    if Region.wanted o (yielded ops ac.tmps) = true then Oper.wp P o ac w K Q else E := by
  have hw : Region.wanted o (yielded ops ac.tmps) = true := by simp [Region.wanted, hgd]
  rw [if_pos hw]
  obtain ⟨a', c', g', o', w', hrun, h1, h2, h3⟩ := run_append_ring (ty := o.type) h ht hi hz hs hb hzc hA hn hbase
  unfold Oper.wp execOp
  simp only [ho, resolve, invoke, builtin, Sem.run_bind, Sem.run_pure, Result.andThen_ok, List.map_toArray, List.map_cons, List.map_nil, hsv, hxv, hrun]
  exact hK a' c' g' o' w' h1 h2 h3
end
section
variable {w0 w w' : World} {D b g : Nat} {L : Rg} {a : Option Addr} {n c gt o : Nat} {xs : List Int}
theorem St.neBox (s : St w0 w D b g L) {d t : Nat} {v : Value} (h : Boxed w d t v) (h1 : t ≠ 50) (h2 : t ≠ 3) : D ≠ d ∧ g ≠ d ∧ b ≠ d := by
  obtain ⟨a, c, o, k⟩ := s.ck
  have r := boxed_row h
  refine ⟨rowIs_ne k.srow r (fun e => h1 e.symm), ?_, k.map.ne_row r⟩
  by_cases ha : a = none
  · rw [k.gb ha]; exact k.map.ne_row r
  · exact k.ring.ne r (fun e => h2 e.symm) ha
theorem boxed_tri {d t : Nat} {v : Value} (h : Boxed w d t v) (k : Tri w w' D g b) (hne : D ≠ d ∧ g ≠ d ∧ b ≠ d) : Boxed w' d t v := (k.block d h.lt hne.1.symm hne.2.1.symm hne.2.2.symm).trans h
theorem Row.neBox (r : Row w0 w D b g a n c gt o xs) {d t : Nat} {v : Value} (h : Boxed w d t v) (h2 : t ≠ 3) (ha : a ≠ none) : gt ≠ d := r.ring.ne (boxed_row h) (fun e => h2 e.symm) ha
theorem boxed_moved {d t : Nat} {v : Value} {g' : Nat} (h : Boxed w d t v) (r : Row w0 w D b g a n c gt o xs) (h2 : t ≠ 3) (hm : Moved w w' a gt g') : Boxed w' d t v := by
  rcases hm with ⟨h4, _, h5⟩ | ⟨_, h5⟩
  · exact boxed_only h h5 (r.neBox h h2 h4).symm
  · exact boxed_below h h5
end
/-- The worlds of the loop over all. -/
structure TW (w W : World) (D b g : Nat) (L : Rg) (B F : Nat) (ta : Option Addr) (tn tc gt tO : Nat) (M : List Int) (f : Int) (A : Nat) (pre : List Int) : Prop where
  st : St w W D b g L
  mB : Boxed W B 23 (.slice ta tn tc)
  tr : Row w W D b g ta tn tc gt tO M
  mF : Boxed W F 3 (.int .i64 f)
  aB : Boxed W A 4 (.bool (allB M pre))
  oB : Boxed W (A + 1) 4 (.bool (ownB M f pre))
section
variable {w W W' : World} {D b g : Nat} {L : Rg} {B F : Nat} {ta : Option Addr} {tn tc gt tO : Nat} {M : List Int} {f : Int} {A : Nat} {pre : List Int}
theorem Row.step (h : Row w W D b g ta tn tc gt tO M) {Z : Nat} (st : Step Z W W') : Row w W' D b g ta tn tc gt tO M :=
  ⟨h.ring.of_block fun ha => by obtain ⟨cs, h1, _⟩ := h.ring.blk ha; exact st.cells h1, h.ne⟩
theorem TW.step {Z : Nat} (h : TW w W D b g L B F ta tn tc gt tO M f A pre) (st : Step Z W W') (hb : b < Z) (hw : w.heap.size ≤ Z) : TW w W' D b g L B F ta tn tc gt tO M f A pre :=
  ⟨h.st.step st hb hw, boxed_step h.mB st, h.tr.step st, boxed_step h.mF st, boxed_step h.aB st, boxed_step h.oB st⟩
theorem TW.next (h : TW w W D b g L B F ta tn tc gt tO M f A pre) (hD : D < A) (hb : b < A) (hg : g < A) (hB : B < A) (hF : F < A) (hw : w.heap.size ≤ A) (ht : ta ≠ none → gt < A) (x : Int) :
    TW w ((W.setCell ⟨A, 0, none⟩ (.bool (allB M (pre ++ [x])))).setCell ⟨A + 1, 0, none⟩ (.bool (ownB M f (pre ++ [x])))) D b g L B F ta tn tc gt tO M f A (pre ++ [x]) := by
  have o1 := only_set (only_refl W A) 0 (.bool (allB M (pre ++ [x])))
  have o2 := only_set (only_refl (W.setCell ⟨A, 0, none⟩ (.bool (allB M (pre ++ [x])))) (A + 1)) 0 (.bool (ownB M f (pre ++ [x])))
  refine ⟨(h.st.only o1 ⟨by omega, by omega, by omega⟩ hw).only o2 ⟨by omega, by omega, by omega⟩ (by omega), boxed_only (boxed_only h.mB o1 (by omega)) o2 (by omega), ⟨(h.tr.ring.only o1 (fun h => by have := ht h; omega)).only o2 (fun h => by have := ht h; omega), h.tr.ne⟩,
    boxed_only (boxed_only h.mF o1 (by omega)) o2 (by omega), boxed_only (h.aB.set _) o2 (by omega), (boxed_only h.oB o1 (by omega)).set _⟩
end
theorem wp_plain_exit {P : Program} {c : Code} {Q : Exit → Act → World → Prop} {a : Act} {w : World} (h : ∀ K : Act → World → Prop, (∀ a w, Q .normal a w → K a w) → c.wp P (Exit.then K (fun _ _ _ => False)) a w) : c.wp P Q a w :=
  wp_mono (h _ (fun _ _ h => h)) fun e _ _ hq => by
    cases e with
    | normal => exact hq
    | _ => exact hq.elim
set_option maxRecDepth 100000 in
set_option maxHeartbeats 8000000 in
theorem touched_any (a : Option Addr) (len cap bo off : Nat) (V : Nat → Nat → Int) (a1 : Option Addr) (len1 cap1 bo1 off1 : Nat) (T : Nat → Int) (w : World) (o : OpsI w a len bo off 2 V) (hlen : len ≤ 9223372036854775807) (o1 : IntsI w a1 len1 bo1 off1 T) (hlen1 : len1 ≤ 9223372036854775807) :
    Calls Try.prog 3 #[.slice a len cap, .slice a1 len1 cap1] w fun e w' => e = .returned (.bool true) ∧ Below w.heap.size w w' := by
  obtain ⟨i0, hi, hz0, hz1, hz2⟩ := info_parts info3
  refine calls_of_wp_marks Try.func3 rfl ?_
  simp only [Try.ntmps3, List.size_toArray, List.length_cons, List.length_nil, Nat.reduceAdd, Nat.reduceSub, Array.replicate_succ, Array.replicate_zero, List.push_toArray, List.append_toArray, List.nil_append, List.cons_append]
  by_cases hbad : 100 < len ∨ (¬ 100 < len ∧ 100 < len1)
  · rcases hbad with h | ⟨h, h1⟩
    case' inr => have d1 : decide ((100 : Int) < (len : Int)) = false := by simp; omega
    all_goals
      go_wp2_with fail
      refine (known_any w).mono ?_
      rintro e w' ⟨rfl, hb⟩
      go_wp2_with fail
      refine leaves_marks (B := w.heap.size) [] _ hb.size (marks_nil _ _) (fun w'' sh => ⟨_, results_tmp rfl _ _ _, rfl, hb.trans sh.below⟩)
  have d1 : decide ((100 : Int) < (len : Int)) = false := by simp; omega
  have d2 : decide (100 < len) = false := by simp; omega
  have d3 : decide ((100 : Int) < (len1 : Int)) = false := by simp; omega
  have d4 : decide (100 < len1) = false := by simp; omega
  have hl1 : len1 ≤ 100 := by omega
  go_wp2_with fail
  refine (new_st (Below.refl _ w)).mono ?_
  rintro e w1 ⟨rfl, s, _⟩
  generalize w.heap.size + 1 = D at *
  clear d1 d2 d3 d4
  go_wp2_with fail
  go_loopw [29] (fun v wr => ∃ k : Nat, k ≤ len ∧ v = .int .i64 k ∧ ∃ (b g : Nat) (L : Rg), L.length ≤ k ∧ St w wr D b g L) (fun v _ => len - (intOf v).toNat)
  case atStart => exact ⟨0, by omega, rfl, _, _, [], by simp, s⟩
  case round =>
    clear s
    obtain ⟨k, hk, rfl, b, g, L, hLk, s⟩ := hrel
    by_cases hlt : k < len
    · have o' := o.below s.below
      have ck := o'.c0 hlt (by omega)
      have c1 := o'.cell k hlt 1 (by omega)
      have hkd : kdI (V k 1) := wf64 (o.i64 k hlt 1 (by omega)).1 (o.i64 k hlt 1 (by omega)).2
      obtain rfl := o.at_ (by omega)
      have hL6 : L.length ≤ 1000000 := by omega
      rcases Decidable.em (V k 0 = 1) with hk1 | hk1
      · have q1 : (V k 0 == 1) = true := by rw [hk1]; rfl
        obtain ⟨x, L', hx⟩ : ∃ x L', removeC L (V k 1) = (x, L') := ⟨_, _, rfl⟩
        have hl := len_removeC L (V k 1)
        rw [hx] at hl
        have HX := Lib.hid hx
        clear hx hk1
        go_wp2_with fail
        refine (remove_st s hkd HX.out).mono ?_
        rintro e w5 ⟨rfl, g5, hg5, s5, t5⟩
        clear hg5 t5 s
        go_wp2_with fail
        go_roundw
        case rel => exact ⟨k + 1, by omega, by go_num, b, g5, L', by omega, s5⟩
        case measure => simp [intOf]; omega
      · have q1 : (V k 0 == 1) = false := beq_eq_false_iff_ne.2 hk1
        clear hk1
        rcases Decidable.em (V k 0 = 2) with hk2 | hk2
        · have q2 : (V k 0 == 2) = true := by rw [hk2]; rfl
          obtain ⟨x, L', hx⟩ : ∃ x L', touchC L (V k 1) = (x, L') := ⟨_, _, rfl⟩
          have hl := len_touchC L (V k 1)
          rw [hx] at hl
          have HX := Lib.hid hx
          have HLL := Lib.hid hl
          clear hx hk2 hl
          go_wp2_with fail
          refine (touch_st s hkd HX.out).mono ?_
          rintro e w5 ⟨rfl, g5, hg5, s5, t5⟩
          clear hg5 t5 s
          go_wp2_with fail
          go_roundw
          case rel => exact ⟨k + 1, by omega, by go_num, b, g5, L', by have := HLL.out; omega, s5⟩
          case measure => simp [intOf]; omega
        · have q2 : (V k 0 == 2) = false := beq_eq_false_iff_ne.2 hk2
          clear hk2
          rcases Decidable.em (V k 0 = 3) with hk3 | hk3
          · have q3 : (V k 0 == 3) = true := by rw [hk3]; rfl
            obtain ⟨x, L', hx⟩ : ∃ x L', nextC L = (x, L') := ⟨_, _, rfl⟩
            have hl := len_nextC L
            rw [hx] at hl
            have HX := Lib.hid hx
            have HLL := Lib.hid hl
            clear hx hk3 hl
            go_wp2_with fail
            refine (next_st s hL6 HX.out).mono ?_
            rintro e w5 ⟨rfl, g5, hg5, s5, t5⟩
            clear hg5 t5 s
            go_wp2_with fail
            go_roundw
            case rel => exact ⟨k + 1, by omega, by go_num, b, g5, L', by have := HLL.out; omega, s5⟩
            case measure => simp [intOf]; omega
          · have q3 : (V k 0 == 3) = false := beq_eq_false_iff_ne.2 hk3
            obtain ⟨x, L', hx⟩ : ∃ x L', addC L (V k 1) = (x, L') := ⟨_, _, rfl⟩
            have hl := len_addC L (V k 1)
            rw [hx] at hl
            have HX := Lib.hid hx
            clear hx hk3
            go_wp2_with fail
            refine (add_st s hL6 hkd HX.out).mono ?_
            rintro e w5 ⟨rfl, g5, hg5, s5, t5⟩
            clear hg5 t5 s
            go_wp2_with fail
            go_roundw
            case rel => exact ⟨k + 1, by omega, by go_num, b, g5, L', by omega, s5⟩
            case measure => simp [intOf]; omega
    · obtain ⟨n, hn⟩ : ∃ n, L.length = n := ⟨_, rfl⟩
      have hn100 : n ≤ 100 := by omega
      have HN := Lib.hid hn
      have hkl : k = len := by omega
      subst hkl
      clear hn hLk
      go_wp2_with fail
      refine (len_st s HN.out).mono ?_
      rintro e w5 ⟨rfl, rfl⟩
      go_wp2_with fail
      go_loopw [71] (fun v wr => ∃ i : Nat, i ≤ 3 * n ∧ v = .int .i64 i ∧ ∃ g j : Nat, i ≤ j ∧ St w wr D b g (Nat.repeat rot j L)) (fun v _ => 3 * n - (intOf v).toNat)
      case atStart => exact ⟨0, by omega, rfl, g, 0, Nat.le_refl _, s⟩
      case round =>
        clear s
        obtain ⟨i, hi3, rfl, g, j, hij, s⟩ := hrel
        by_cases hin : i < 3 * n
        · have hint : (i : Int) < 3 * (n : Int) := by omega
          obtain ⟨f, j', hx, hj'⟩ := next_rep (L := L) rfl hij (by intro e; have := HN.out; rw [e] at this; simp at this; omega)
          have HX := Lib.hid hx
          have hl6 : (Nat.repeat rot j L).length ≤ 1000000 := by rw [len_rots, HN.out]; omega
          clear hx
          go_wp2_with fail
          refine (next_st s hl6 HX.out).mono ?_
          rintro e w6 ⟨rfl, g6, hg6, s6, t6⟩
          clear hg6 t6 s hl6
          go_wp2_with fail
          go_roundw
          case rel => exact ⟨i + 1, by omega, by go_num, g6, j', hj', s6⟩
          case measure => simp [intOf]; omega
        · have hint : ¬ (i : Int) < 3 * (n : Int) := by omega
          have hint2 : 3 * (n : Int) ≤ (i : Int) := by omega
          have hz := zero_late L (j := j) (by rw [HN.out]; omega)
          have hnl : (Nat.repeat rot j L).length = n := by rw [len_rots, HN.out]
          generalize Nat.repeat rot j L = Z at *
          have htm := tm_zero s.ok hz
          have bB := below_new wr (.cells #[.slice none 0 0] 23)
          have sB := s.belowW bB
          have mB := Boxed.new wr 23 (.slice none 0 0)
          have HL := Lib.hid hnl
          have HTM := Lib.hid htm
          have hBw : w.heap.size ≤ wr.heap.size := s.below.size
          clear hz hnl HN hij htm s bB
          go_wp2_with fail
          generalize wr.alloc (.cells #[.slice none 0 0] 23) = W0 at *
          generalize wr.heap.size = B at *
          go_loopw [78] (fun v wr => ∃ i : Nat, i ≤ len1 ∧ v = .int .i64 i ∧ ∃ (g : Nat) (ta : Option Addr) (tn tc gt tO : Nat) (M : List Int) (Y : Rg), tn ≤ i ∧ Boxed wr B 23 (.slice ta tn tc) ∧ Row w wr D b g ta tn tc gt tO M ∧ St w wr D b g Y ∧ Y.length = n ∧ TM Y M) (fun v _ => len1 - (intOf v).toNat)
          case atStart => exact ⟨0, by omega, rfl, g, none, 0, 0, 0, 0, [], Z, by omega, mB, ⟨RingAt.nil _ _ _ _ _, fun h => absurd rfl h⟩, sB, HL.out, HTM.out⟩
          case round =>
            clear sB mB
            obtain ⟨i, hi1, rfl, g, ta, tn, tc, gt, tO, M, Y, htn, mB, t, s, hYn, hTM⟩ := hrel
            have HY := Lib.hid hYn
            have HT := Lib.hid hTM
            clear hYn hTM
            by_cases hil : i < len1
            · have o1' := o1.below s.below
              have c1 := o1'.cell i hil
              have hkd : kdI (T i) := wf64 (o1.i64 i hil).1 (o1.i64 i hil).2
              have hbt := o1'.lt (by omega)
              obtain rfl := o1.at_ (by omega)
              cases hh : hasC Y (T i) with
              | false =>
                have HX := Lib.hid (show touchC Y (T i) = (7, Y) by unfold touchC; rw [hh]; rfl)
                clear hh
                go_wp2_with fail
                refine (touch_st s hkd HX.out).mono ?_
                rintro e w6 ⟨rfl, g6, hg6, s6, t6⟩
                have tr6 := t.tri t6 hg6
                have mB6 := boxed_tri mB t6 (s.neBox mB (by decide) (by decide))
                clear hg6 t6 s t mB
                go_wp2_with fail
                go_roundw
                case rel => exact ⟨i + 1, by omega, by go_num, g6, ta, tn, tc, gt, tO, M, Y, by omega, mB6, tr6, s6, HY.out, HT.out⟩
                case measure => simp [intOf]; omega
              | true =>
                have HX := Lib.hid (show touchC Y (T i) = (0, Y.map (touchE (T i))) by unfold touchC; rw [hh]; rfl)
                clear hh
                go_wp2_with fail
                refine (touch_st s hkd HX.out).mono ?_
                rintro e w6 ⟨rfl, g6, hg6, s6, t6⟩
                have tr6 := t.tri t6 hg6
                have mB6 := boxed_tri mB t6 (s.neBox mB (by decide) (by decide))
                have c16 := ((o1.below s6.below).cell i hil)
                have cb := mB6.cell
                have bd : Below w6.heap.size w6 (w6.alloc (.cells #[.int .i64 (T i)] 3)).drew := (below_new w6 (.cells #[.int .i64 (T i)] 3)).drew
                have s7 := s6.belowW bd
                have t7 := tr6.below bd
                have mB7 := boxed_below mB6 bd
                have hA : (w6.alloc (.cells #[.int .i64 (T i)] 3)).drew.cell? ⟨w6.heap.size, 0, none⟩ = some (.int .i64 (T i)) := World.cell?_alloc_new w6 _ _ 0
                have HA := Lib.hid hA
                have HRR := Lib.hid t7.ring
                have HB2 := Lib.hid s7.below.size
                have hn6 : tn ≤ 1000000 := by omega
                have cb7 := (boxed_below mB6 (below_new w6 (.cells #[.int .i64 (T i)] 3))).cell
                have c17 := (o1.below (below_then s6.below (below_new w6 (.cells #[.int .i64 (T i)] 3)))).cell i hil
                have hii0 : (0 : Int) ≤ (i : Int) := by omega
                have hii1 : (i : Int) < (len1 : Int) := by omega
                clear hg6 t6 s t mB c1 hA bd
                go_wp2_with fail
                refine wp_plain_exit fun K hK => ?_
                go_region_law ((refine step_append_ring _ (by rfl) (.tmp 88) (.tmp 93) 23 (by rfl) Try.underlying23 hi hz0 hz1 hz2 rfl HRR.out (by rfl) (by rfl) HA.out hn6 HB2.out ?_; intro a3 c3 g3 o3 w9 hr ha hmv; have mB9 := boxed_moved mB7 t7 (by decide) hmv; have cb9 := mB9.cell; have fb9 := mB9.frozen; obtain ⟨t9, s9⟩ := t7.moved s7 hr ha hmv))
                all_goals
                  have on := only_set (only_refl w9 B) 0 (.slice a3 (tn + 1) c3)
                  have hne := s9.neBox mB9 (by decide) (by decide)
                  have hng := t9.neBox mB9 (by decide) ha
                  have s10 := s9.only on hne hBw
                  have t10 : Row w (w9.setCell ⟨B, 0, none⟩ (.slice a3 (tn + 1) c3)) D b g6 a3 (tn + 1) c3 g3 o3 (M ++ [T i]) := ⟨t9.ring.only on (fun _ => hng), t9.ne⟩
                  have m10 := mB9.set (.slice a3 (tn + 1) c3)
                  have hY2 : (Y.map (touchE (T i))).length = n := by rw [List.length_map, HY.out]
                  have HY2 := Lib.hid hY2
                  clear hY2 on s9 t9 mB9 hr hmv s7 t7 mB7 HRR HB2 HA c16 cb s6 tr6 mB6 cb7 c17
                  go_wp2_with fail
                  go_roundw
                  case rel => exact ⟨i + 1, by omega, by go_num, g6, a3, tn + 1, c3, g3, o3, M ++ [T i], Y.map (touchE (T i)), by omega, m10, t10, s10, HY2.out, HT.out.touch _⟩
                  case measure => simp [intOf]; omega
            · have hil2 : i = len1 := by omega
              subst hil2
              by_cases hn0 : n = 0
              · subst hn0
                have hYe : Y = [] := List.eq_nil_of_length_eq_zero HY.out
                have HX := Lib.hid (show nextC Y = (none, []) by rw [hYe]; rfl)
                have hl6 : Y.length ≤ 1000000 := by rw [hYe]; simp
                clear hYe
                go_wp2_with fail
                refine (next_st s hl6 HX.out).mono ?_
                rintro e w6 ⟨rfl, g6, hg6, s6, t6⟩
                clear hg6 t6 s hl6
                unfold toldV
                go_wp2_with fail
                refine (known_any _).mono ?_
                rintro e w8 ⟨rfl, b8⟩
                have s8 := s6.belowW (below_then (below_new w6 (.cells #[.int .i64 0] 3)) b8)
                go_wp2_with fail
                refine leaves_marks (B := w.heap.size) [] _ s8.below.size (marks_nil _ _) (fun w'' sh => ⟨_, results_tmp rfl _ _ _, rfl, s8.below.trans sh.below⟩)
              · obtain ⟨f, L', hx, hl', hh, hf, hall⟩ := told_touched HT.out (by intro e; have := HY.out; rw [e] at this; exact hn0 this.symm)
                have hoa := own_all hh hall
                have hfL : hasC L' f = true := by rw [hh]; exact hf
                have hkd : kdI f := by
                  obtain ⟨m, hm⟩ := hasC_true.1 hf
                  exact s.kd hm
                have hLn : L'.length = n := by rw [hl', HY.out]
                have HX := Lib.hid hx
                have HOA := Lib.hid hoa
                have HF := Lib.hid hfL
                have HLN := Lib.hid hLn
                have hl6 : Y.length ≤ 1000000 := by rw [HY.out]; omega
                clear hx hoa hfL hLn hh hf hall hl' HY HT
                go_wp2_with fail
                refine (next_st s hl6 HX.out).mono ?_
                rintro e w6 ⟨rfl, g6, hg6, s6, t6⟩
                have tr6 := t.tri t6 hg6
                have mB6 := boxed_tri mB t6 (s.neBox mB (by decide) (by decide))
                clear hg6 t6 s t mB hl6
                unfold toldV
                have bf := below_new w6 (.cells #[.int .i64 f] 3)
                have s7 := s6.belowW bf
                have t7 := tr6.below bf
                have mB7 := boxed_below mB6 bf
                have mF7 := Boxed.new w6 3 (.int .i64 f)
                have cf := mF7.cell
                go_wp2_with fail
                generalize w6.alloc (.cells #[.int .i64 f] 3) = w7 at *
                refine (has_st s7 hkd HF.out).mono ?_
                rintro e w8 ⟨rfl, b8⟩
                have s8 := s7.belowW b8
                have t8 := t7.below b8
                have mB8 := boxed_below mB7 b8
                have mF8 := boxed_below mF7 b8
                clear s6 tr6 mB6 bf s7 t7 mB7 mF7 b8 cf
                go_wp2_with fail
                refine (len_st s8 HLN.out).mono ?_
                rintro e w8 ⟨rfl, rfl⟩
                go_wp2_with fail
                have bA := below_alloc (below_new w8 (.cells #[.bool true] 4)) (.cells #[.bool false] 4)
                have sA := s8.belowW bA
                have tA := t8.below bA
                have mBA := boxed_below mB8 bA
                have mFA := boxed_below mF8 bA
                have aA := (Boxed.new w8 4 (.bool true)).alloc (.cells #[.bool false] 4)
                have oA := Boxed.new (w8.alloc (.cells #[.bool true] 4)) 4 (.bool false)
                rw [World.size_alloc] at oA
                have hFl : w6.heap.size < w8.heap.size := mF8.lt
                have hBl := mB8.lt
                have hDl := s8.ltD
                have hbl := s8.ltb
                have hgl := s8.ltg
                have hgt : ta ≠ none → gt < w8.heap.size := fun h => (t8.ring.lt h).2
                have heq := eq_fn36
                clear s8 t8 mB8 mF8 bA
                generalize (w8.alloc (.cells #[.bool true] 4)).alloc (.cells #[.bool false] 4) = w9 at *
                generalize hA1 : w8.heap.size = A1 at *
                refine (all_any (some ⟨D, 0, none⟩) w9).mono ?_
                rintro e WB ⟨rfl, rfl⟩
                go_wp2_with fail
                refine (all_any (some ⟨D, 0, none⟩) _).mono ?_
                rintro e WC ⟨rfl, rfl⟩
                have hX := Boxed.new (w9.alloc (.cells #[.pointer (some ⟨D, 0, none⟩)] 25)) 25 (.pointer (some ⟨D, 0, none⟩))
                rw [World.size_alloc] at hX
                have bD := below_alloc (below_new w9 (.cells #[.pointer (some ⟨D, 0, none⟩)] 25)) (.cells #[.pointer (some ⟨D, 0, none⟩)] 25)
                have sM := sA.belowW bD
                have tM := tA.below bD
                have mBM := boxed_below mBA bD
                have mFM := boxed_below mFA bD
                have aM := boxed_below aA bD
                have oM := boxed_below oA bD
                clear sA tA mBA mFA aA oA bD
                go_wp2_with fail
                generalize (w9.alloc (.cells #[.pointer (some ⟨D, 0, none⟩)] 25)).alloc (.cells #[.pointer (some ⟨D, 0, none⟩)] 25) = WM at *
                have hah : Ahead WM A1 (fun k => k = A1 ∨ k = A1 + 1) := ⟨fun k hk => by rcases hk with rfl | rfl; exact aM.lt; exact oM.lt, aM.lt, fun d o n c hd => by rw [aM.cell] at hd; cases hd⟩
                have hT := tells_st sM (by rw [HLN.out]; omega) hX hah id (List.map_id _)
                have HT := Lib.hid hT
                have HAH := Lib.hid hah
                have hw0 := sM.below.size
                have hb3 := sM.ltb.2
                have hML := tM.ring.len
                have HML := Lib.hid hML
                clear hT hah hX hML
                refine wp_rangeS1 (α := Int) 123 14 (gf := 28) (lb := #[.pointer (some ⟨w9.heap.size + 1, 0, none⟩)]) rfl (fun _ _ => by kernel_rfl) HT.out HAH.out
                  (fun pre W => TW w W D b g6 L' B w6.heap.size ta tn tc gt tO M f A1 pre ∧ WM.heap.size ≤ W.heap.size)
                  (fun _ _ _ => False)
                  (fun pre W W' h st => ⟨h.1.step st hb3 hw0, Nat.le_trans h.2 st.size⟩) (fun _ _ _ _ h _ => h) ⟨⟨sM, mBM, tM, mFM, aM, oM⟩, Nat.le_refl _⟩ ?assign ?body ?done ?stop
                case assign =>
                  intro l x W K hK
                  gi_wp2
                  exact hK
                case stop =>
                  rintro M c pre W hM hpre hx hk
                  exact hx.elim
                case done =>
                  rintro Mk W hM ⟨s, -⟩ hk
                  have mk : Marks w.heap.size W [Mk] := ⟨fun D' h' => by obtain rfl := List.mem_singleton.1 h'; exact ⟨by omega, hk⟩, by simp⟩
                  have ca := s.aB.cell
                  have co := s.oB.cell
                  have hoa := HOA.out
                  generalize ownB M f (L'.map Prod.fst) = ov at *
                  generalize allB M (L'.map Prod.fst) = av at *
                  have HS := Lib.hid s.st
                  clear s
                  cases ov <;> cases av
                  case true.false => cases hoa
                  all_goals
                    clear hoa
                    go_wp2_with fail
                    refine (known_any _).mono ?_
                    rintro e w8 ⟨rfl, b8⟩
                    have s8 := HS.out.belowW b8
                    have m8 := mk.below b8
                    go_wp2_with fail
                    refine leaves_marks (B := w.heap.size) [Mk] _ s8.below.size m8 (fun w'' sh => ⟨_, results_tmp rfl _ _ _, rfl, s8.below.trans sh.below⟩)
                case body =>
                  rintro l pre x W hl ⟨s, hsz⟩ hlen
                  simp only [List.setIfInBounds_toArray, List.set_cons_zero, List.set_cons_succ]
                  have cb := s.mB.cell
                  have tr := s.tr
                  have hmc := tr.ring.le
                  gi_wp2
                  gi_loopw [15, 126] (fun iv v wr => ∃ k : Nat, k ≤ tn ∧ v = .int .i64 k ∧ iv = .bool ((M.take k).contains x) ∧ wr = W) (fun _ v _ => tn - (intOf v).toNat)
                  case atStart => exact ⟨0, by omega, rfl, by simp, rfl⟩
                  case round =>
                    obtain ⟨k, hk, rfl, rfl, rfl⟩ := hrel
                    by_cases hkt : k < tn
                    · obtain ⟨y, hy, hcy⟩ := tr.ring.get hkt
                      obtain rfl := tr.ring.pos (by omega)
                      have htk : (M.take (k + 1)).contains x = ((M.take k).contains x || y == x) := by
                        rw [List.take_add_one, hy]
                        simp only [Option.toList, List.contains_append]
                        rw [show [y].contains x = (y == x) by simp only [List.contains_cons, List.contains_nil, Bool.or_false]; exact BEq.comm]
                      have HTK := Lib.hid htk
                      clear htk hy
                      generalize (M.take k).contains x = q at *
                      by_cases hyx : y = x
                      case' pos => have hyq : (y == x) = true := by rw [hyx]; simp
                      case' neg => have hyq : (y == x) = false := beq_eq_false_iff_ne.2 hyx
                      all_goals
                        clear hyx
                        cases q
                        all_goals
                          gi_wp2
                          go_roundw
                          case rel => exact ⟨k + 1, by omega, by go_num, by rw [HTK.out, hyq]; rfl, by trivial⟩
                          case measure => simp [intOf]; omega
                    · have hkt' : k = tn := by omega
                      have htk : M.take k = M := List.take_of_length_le (by rw [HML.out]; omega)
                      rw [htk]
                      clear htk
                      have ca := s.aB.cell
                      have fa := s.aB.frozen
                      have co := s.oB.cell
                      have fo := s.oB.frozen
                      have cf := s.mF.cell
                      have HNX := Lib.hid (s.next (by omega) (by omega) (by omega) (by omega) (by omega) (by omega) (fun h => by have := hgt h; omega) x)
                      have hA1l := s.aB.lt
                      have hsm : (wr.cell? ⟨A1, 0, none⟩).isSome = true := by rw [ca]; rfl
                      have hsm2 : ∀ v, ((wr.setCell ⟨A1, 0, none⟩ v).cell? ⟨A1 + 1, 0, none⟩).isSome = true := fun v => by rw [World.cell?_of_block (w := wr) (Below.heap_setCell _ _ _ _ (by simp)), co]; rfl
                      have HSM := Lib.hid hsm
                      have HSM2 := Lib.hid hsm2
                      have HSZ := Lib.hid hsz
                      clear s tr hsz hsm hsm2
                      obtain ⟨xf, hxf⟩ : ∃ xf, (x == f) = xf := ⟨_, rfl⟩
                      have HXF := Lib.hid hxf
                      rw [allB_snoc, ownB_snoc, hxf] at HNX
                      generalize M.contains x = c at *
                      generalize allB M pre = av at *
                      generalize ownB M f pre = ov at *
                      cases av <;> cases ov <;> cases c <;> cases xf
                      all_goals
                        gi_wp2
                        exact ⟨(keeps_set _ _ _).trans (keeps_set _ _ _), (kpS_set (.inl rfl) hA1l (fun _ e o n c => by simp) HSM.out).trans (kpS_set (.inr rfl) (by simpa [World.setCell] using hA1l) (fun h => by omega) (HSM2.out _)), HNX.out, by simpa [World.setCell] using HSZ.out⟩
end Go.Proofs.Ythgajdaiklfjhaa
