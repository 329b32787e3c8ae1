/-
  The walk of the law ClockNew.
-/
import Derived.Test.YthgajdaiklfjhaaCollect
import Derived.Test.YthgajdaiklfjhaaLawsN
import Derived.Deep.QuietTactic
namespace Go.Proofs.Ythgajdaiklfjhaa
open Go.RowKit
attribute [local go_sem] Oper.semAt_some

theorem mod_any (x : Int) {n : Nat} (h0 : 1 ≤ n) (h1 : n ≤ 65536) : ∃ k : Nat, k < n ∧ (IntKind.u64.wrap x).tmod (n : Int) = (k : Int) := by
  rw [IntKind.wrap_u64, Int.tmod_eq_emod_of_nonneg (by omega)]
  have h2 := Int.emod_nonneg (x % 18446744073709551616) (show (n : Int) ≠ 0 by omega)
  have h3 := Int.emod_lt_of_pos (x % 18446744073709551616) (show 0 < (n : Int) by omega)
  exact ⟨(x % 18446744073709551616 % n).toNat, by omega, by omega⟩
/-- The clock, and a row in its box. -/
structure NC (w W : World) (D b g : Nat) (L : Rg) (B : Nat) (a : Option Addr) (n c gt o : Nat) (xs : List Int) (Ds : List Nat) : Prop where
  st : St w W D b g L
  m : Boxed W B 23 (.slice a n c)
  r : Row w W D b g a n c gt o xs
  mks : Marks w.heap.size W Ds
section
variable {w W W' : World} {D b g : Nat} {L : Rg} {B : Nat} {a : Option Addr} {n c gt o : Nat} {xs : List Int} {Ds : List Nat}
theorem NC.below (h : NC w W D b g L B a n c gt o xs Ds) (k : Below W.heap.size W W') : NC w W' D b g L B a n c gt o xs Ds := ⟨h.st.belowW k, boxed_below h.m k, h.r.below k, h.mks.below k⟩
theorem NC.step {Z : Nat} (h : NC w W D b g L B a n c gt o xs Ds) (st : Step Z W W') (hb : b < Z) (hw : w.heap.size ≤ Z) (hD : ∀ D ∈ Ds, D < Z) : NC w W' D b g L B a n c gt o xs Ds :=
  ⟨h.st.step st hb hw, boxed_step h.m st, h.r.step st, h.mks.stepD st hD⟩
theorem NC.tri (h : NC w W D b g L B a n c gt o xs Ds) {g' : Nat} {L' : Rg} (s' : St w W' D b g' L') (t : Tri W W' D g b) (hg : g' = g ∨ W.heap.size ≤ g') : NC w W' D b g' L' B a n c gt o xs Ds :=
  ⟨s', boxed_tri h.m t (h.st.neBox h.m (by decide) (by decide)), h.r.tri t hg, h.st.marks h.mks t⟩
theorem NC.push (h : NC w W D b g L B a n c gt o xs Ds) {ob : Obj} {w3 : World} {a3 : Option Addr} {n3 c3 g3 o3 : Nat} {x3 : List Int} (hm : Moved (W.alloc ob) w3 a gt g3) (hr3 : RingAt w3 w.heap.size 3 a3 n3 c3 g3 o3 x3) (ha : a3 ≠ none) (hw : w.heap.size ≤ B) :
    NC w (w3.setCell ⟨B, 0, none⟩ (.slice a3 n3 c3)) D b g L B a3 n3 c3 g3 o3 x3 Ds ∧ w3.cell? ⟨B, 0, none⟩ = some (.slice a n c) ∧ w3.frozen? ⟨B, 0, none⟩ = false := by
  have h' := h.below (below_new W ob)
  have m1 := boxed_moved h'.m h'.r (by decide) hm
  obtain ⟨r3, s3⟩ := h'.r.moved h'.st hr3 ha hm
  have mk := h'.mks.moved h'.r hm
  have on := only_set (only_refl w3 B) 0 (.slice a3 n3 c3)
  have hne := s3.neBox m1 (by decide) (by decide)
  exact ⟨⟨s3.only on hne hw, m1.set _, ⟨r3.ring.only on (fun _ => r3.neBox m1 (by decide) ha), r3.ne⟩, mk.set _ _⟩, m1.cell, m1.frozen⟩
end
theorem copy_here {w0 w : World} {D b g : Nat} {L : Rg} (s : St w0 w D b g L) (hn : L.length ≤ 1000000) : Calls Try.prog 19 #[.pointer (some ⟨D, 0, none⟩)] w fun r w' =>
    ∃ D' b' g', r = .returned (.pointer (some ⟨D', 0, none⟩)) ∧ St w w' D' b' g' L ∧ Below w.heap.size w w' := by
  obtain ⟨a, c, o, k⟩ := s.ck
  refine (copy_any k hn).mono ?_
  rintro e w' ⟨D', b', a', c', g', o', rfl, hD, k', bl⟩
  exact ⟨D', b', g', rfl, ⟨⟨a', c', o', k'⟩, bl, hD⟩, bl⟩
set_option maxRecDepth 100000 in
set_option maxHeartbeats 8000000 in
theorem newl_any (a : Option Addr) (len cap bo off : Nat) (V : Nat → Nat → Int) (frame gone : Int) (hfr : (Lit.int .i64 frame).wf = true) (w : World) (o : OpsI w a len bo off 2 V) (hlen : len ≤ 9223372036854775807) :
    Calls Try.prog 6 #[.slice a len cap, .int .i64 frame, .int .i64 gone] w fun e w' => e = .returned (.bool true) ∧ Below w.heap.size w w' := by
  obtain ⟨i0, hi, hz0, hz1, hz2⟩ := info_parts info3
  refine calls_of_wp_marks Try.func6 rfl ?_
  simp only [Try.ntmps6, List.size_toArray, List.length_cons, List.length_nil, Nat.reduceAdd, Nat.reduceSub, Array.replicate_succ, Array.replicate_zero, List.push_toArray, List.append_toArray, List.nil_append, List.cons_append]
  by_cases hbad : 60 < len
  · go_wp2_with fail
    refine (known_any w).mono ?_
    rintro e w' ⟨rfl, hb⟩
    go_wp2_with fail
    refine leaves_marks (B := w.heap.size) [] _ hb.size (marks_nil _ _) (fun w'' sh => ⟨_, results_tmp rfl _ _ _, rfl, hb.trans sh.below⟩)
  have d1 : decide ((60 : Int) < (len : Int)) = false := by simp; omega
  have d2 : decide (60 < len) = false := by simp; omega
  go_wp2_with fail
  refine (new_st (Below.refl _ w)).mono ?_
  rintro e w1 ⟨rfl, s, _⟩
  generalize w.heap.size + 1 = D at *
  clear d1 d2
  go_wp2_with fail
  go_loopw [26] (fun v wr => ∃ k : Nat, k ≤ len ∧ v = .int .i64 k ∧ ∃ (b g : Nat) (L : Rg), L.length ≤ k ∧ St w wr D b g L) (fun v _ => len - (intOf v).toNat)
  case atStart => exact ⟨0, by omega, rfl, _, _, [], by simp, s⟩
  case round =>
    clear s
    obtain ⟨k, hk, rfl, b, g, L, hLk, s⟩ := hrel
    by_cases hlt : k < len
    · have o' := o.below s.below
      have ck := o'.c0 hlt (by omega)
      have c1 := o'.cell k hlt 1 (by omega)
      have hkd : kdI (V k 1) := wf64 (o.i64 k hlt 1 (by omega)).1 (o.i64 k hlt 1 (by omega)).2
      obtain rfl := o.at_ (by omega)
      have hL6 : L.length ≤ 1000000 := by omega
      rcases Decidable.em (V k 0 = 1) with hk1 | hk1
      · have q1 : (V k 0 == 1) = true := by rw [hk1]; rfl
        obtain ⟨x, L', hx⟩ : ∃ x L', removeC L (V k 1) = (x, L') := ⟨_, _, rfl⟩
        have hl := len_removeC L (V k 1)
        rw [hx] at hl
        have HX := Lib.hid hx
        clear hx hk1
        go_wp2_with fail
        refine (remove_st s hkd HX.out).mono ?_
        rintro e w5 ⟨rfl, g5, hg5, s5, t5⟩
        clear hg5 t5 s
        go_wp2_with fail
        go_roundw
        case rel => exact ⟨k + 1, by omega, by go_num, b, g5, L', by omega, s5⟩
        case measure => simp [intOf]; omega
      · have q1 : (V k 0 == 1) = false := beq_eq_false_iff_ne.2 hk1
        clear hk1
        rcases Decidable.em (V k 0 = 3) with hk3 | hk3
        · have q3 : (V k 0 == 3) = true := by rw [hk3]; rfl
          obtain ⟨x, L', hx⟩ : ∃ x L', nextC L = (x, L') := ⟨_, _, rfl⟩
          have hl := len_nextC L
          rw [hx] at hl
          have HX := Lib.hid hx
          have HLL := Lib.hid hl
          clear hx hk3 hl
          go_wp2_with fail
          refine (next_st s hL6 HX.out).mono ?_
          rintro e w5 ⟨rfl, g5, hg5, s5, t5⟩
          clear hg5 t5 s
          go_wp2_with fail
          go_roundw
          case rel => exact ⟨k + 1, by omega, by go_num, b, g5, L', by have := HLL.out; omega, s5⟩
          case measure => simp [intOf]; omega
        · have q3 : (V k 0 == 3) = false := beq_eq_false_iff_ne.2 hk3
          obtain ⟨x, L', hx⟩ : ∃ x L', addC L (V k 1) = (x, L') := ⟨_, _, rfl⟩
          have hl := len_addC L (V k 1)
          rw [hx] at hl
          have HX := Lib.hid hx
          clear hx hk3
          go_wp2_with fail
          refine (add_st s hL6 hkd HX.out).mono ?_
          rintro e w5 ⟨rfl, g5, hg5, s5, t5⟩
          clear hg5 t5 s
          go_wp2_with fail
          go_roundw
          case rel => exact ⟨k + 1, by omega, by go_num, b, g5, L', by omega, s5⟩
          case measure => simp [intOf]; omega
    · obtain ⟨n, hn⟩ : ∃ n, L.length = n := ⟨_, rfl⟩
      have hn100 : n ≤ 60 := by omega
      have HN := Lib.hid hn
      have hkl : k = len := by omega
      subst hkl
      clear hn hLk
      go_wp2_with fail
      refine (len_st s HN.out).mono ?_
      rintro e w5 ⟨rfl, rfl⟩
      go_wp2_with fail
      go_loopw [58] (fun v wr => ∃ i : Nat, i ≤ 3 * n ∧ v = .int .i64 i ∧ ∃ g j : Nat, i ≤ j ∧ St w wr D b g (Nat.repeat rot j L)) (fun v _ => 3 * n - (intOf v).toNat)
      case atStart => exact ⟨0, by omega, rfl, g, 0, Nat.le_refl _, s⟩
      case round =>
        clear s
        obtain ⟨i, hi3, rfl, g, j, hij, s⟩ := hrel
        by_cases hin : i < 3 * n
        · have hint : (i : Int) < 3 * (n : Int) := by omega
          obtain ⟨f, j', hx, hj'⟩ := next_rep (L := L) rfl hij (by intro e; have := HN.out; rw [e] at this; simp at this; omega)
          have HX := Lib.hid hx
          have hl6 : (Nat.repeat rot j L).length ≤ 1000000 := by rw [len_rots, HN.out]; omega
          clear hx
          go_wp2_with fail
          refine (next_st s hl6 HX.out).mono ?_
          rintro e w6 ⟨rfl, g6, hg6, s6, t6⟩
          clear hg6 t6 s hl6
          go_wp2_with fail
          go_roundw
          case rel => exact ⟨i + 1, by omega, by go_num, g6, j', hj', s6⟩
          case measure => simp [intOf]; omega
        · have hint : ¬ (i : Int) < 3 * (n : Int) := by omega
          have hint2 : 3 * (n : Int) ≤ (i : Int) := by omega
          have hz := zero_late L (j := j) (by rw [HN.out]; omega)
          have hnl : (Nat.repeat rot j L).length = n := by rw [len_rots, HN.out]
          generalize Nat.repeat rot j L = Z at *
          have bB := below_new wr (.cells #[.slice none 0 0] 23)
          have s1 : NC w (wr.alloc (.cells #[.slice none 0 0] 23)) D b g Z wr.heap.size none 0 0 0 0 [] [] := ⟨s.belowW bB, Boxed.new _ _ _, ⟨RingAt.nil _ _ _ _ _, fun h => absurd rfl h⟩, marks_nil _ _⟩
          have HZ := Lib.hid hz
          have HL := Lib.hid hnl
          have hBw : w.heap.size ≤ wr.heap.size := s.below.size
          have heq := eq_fn36
          clear hz hnl HN hij s bB
          go_wp2_with fail
          generalize wr.alloc (.cells #[.slice none 0 0] 23) = W1 at *
          generalize hBB : wr.heap.size = B at *
          clear hBB
          refine (all_any (some ⟨D, 0, none⟩) W1).mono ?_
          rintro e WB ⟨rfl, rfl⟩
          go_wp2_with fail
          refine (all_any (some ⟨D, 0, none⟩) _).mono ?_
          rintro e WC ⟨rfl, rfl⟩
          have hX := Boxed.new (W1.alloc (.cells #[.pointer (some ⟨D, 0, none⟩)] 25)) 25 (.pointer (some ⟨D, 0, none⟩))
          rw [World.size_alloc] at hX
          have sM := s1.below (below_alloc (below_new W1 (.cells #[.pointer (some ⟨D, 0, none⟩)] 25)) (.cells #[.pointer (some ⟨D, 0, none⟩)] 25))
          clear s1
          go_wp2_with fail
          generalize (W1.alloc (.cells #[.pointer (some ⟨D, 0, none⟩)] 25)).alloc (.cells #[.pointer (some ⟨D, 0, none⟩)] 25) = WM at *
          have hah : Ahead WM B (fun k => k = B) := ⟨fun k hk => by rw [hk]; exact sM.m.lt, sM.m.lt, fun d o n c hd => by rw [sM.m.cell] at hd; cases hd⟩
          have hZ6 : Z.length ≤ 1000000 := by rw [HL.out]; omega
          have hT := tells_st sM.st hZ6 hX hah id (List.map_id _)
          have HT := Lib.hid hT
          have HAH := Lib.hid hah
          have hw0 := sM.st.below.size
          have hb3 := sM.st.ltb.2
          have hfl : (Z.map Prod.fst).length = n := by rw [List.length_map, HL.out]
          have HFL := Lib.hid hfl
          clear hT hah hX hfl hZ6
          refine wp_rangeS1 (α := Int) 68 10 (gf := 28) (lb := #[.pointer (some ⟨W1.heap.size + 1, 0, none⟩)]) rfl (fun _ _ => by kernel_rfl) HT.out HAH.out
            (fun pre W => ∃ ta tc gt tO, NC w W D b g Z B ta pre.length tc gt tO pre [])
            (fun _ _ _ => False)
            (fun pre W W' h st => by obtain ⟨ta, tc, gt, tO, h⟩ := h; exact ⟨ta, tc, gt, tO, h.step st hb3 hw0 (fun D hD => by cases hD)⟩) (fun _ _ _ _ h _ => h) ⟨none, 0, 0, 0, sM⟩ ?assign ?body ?done ?stop
          case assign =>
            intro l x W K hK
            gi_wp2
            exact hK
          case stop =>
            rintro M c pre W hM hpre hx hk
            exact hx.elim
          case body =>
            rintro l pre x W hl ⟨ta, tc, gt, tO, s⟩ hlen
            rw [HFL.out] at hlen
            simp only [List.setIfInBounds_toArray, List.set_cons_zero, List.set_cons_succ]
            have cb := s.m.cell
            have hA : (W.alloc (.cells #[.int .i64 x] 3)).cell? ⟨W.heap.size, 0, none⟩ = some (.int .i64 x) := World.cell?_alloc_new W _ _ 0
            have HA := Lib.hid hA
            have HR := Lib.hid (s.r.ring.below (below_new W (.cells #[.int .i64 x] 3)))
            have HB2 := Lib.hid (s.st.belowW (below_new W (.cells #[.int .i64 x] 3))).below.size
            have hp6 : pre.length ≤ 1000000 := by omega
            clear hA
            gi_wp2_with (gi_at_builtin; refine wpListIn_append_ring _ rfl (.tmp 69) (.tmp 71) 23 rfl Try.underlying23 hi hz0 hz1 hz2 rfl HR.out rfl rfl HA.out hp6 HB2.out ?_)
            intro a3 c3 g3 o3 w3 hr3 ha3 hmv
            obtain ⟨s3, cb3, fb3⟩ := s.push hmv hr3 ha3 hBw
            have HK := Lib.hid (kpS_push s.m s.r.ring hmv hr3)
            have HK2 := Lib.hid (keeps_push (B0 := WM.heap.size) (Bx := B) s.r.ring hmv (.slice a3 (pre.length + 1) c3))
            have HS := Lib.hid s3
            clear s s3 hr3 hmv cb HR HA HB2
            gi_wp2
            exact ⟨HK2.out, HK.out, a3, c3, g3, o3, by rw [List.length_append]; exact HS.out⟩
          case done =>
            rintro M W hM ⟨ta, tc, gt, tO, s⟩ hk
            rw [HFL.out] at s
            have mk1 : Marks w.heap.size W [M] := ⟨fun D' h' => by obtain rfl := List.mem_singleton.1 h'; exact ⟨by omega, hk⟩, by simp⟩
            have s2 : NC w W D b g Z B ta n tc gt tO (Z.map Prod.fst) [M] := ⟨s.st, s.m, s.r, mk1⟩
            have cB := s2.m.cell
            have hlt := s2.r.ring.le
            clear s mk1 hk
            by_cases hn0 : n = 0
            · have hn1 : ¬ (0 : Int) < (n : Int) := by omega
              have hn3 : (n : Int) ≤ 0 := by omega
              have sE := s2
              clear s2 hlt
              by_cases hneg : frame < 0
              · have q0 : decide (frame < 0) = true := by simpa using hneg
                go_wp2_with fail
                refine (known_any _).mono ?_
                rintro e w8 ⟨rfl, b8⟩
                have s8 := sE.below b8
                go_wp2_with fail
                refine leaves_marks (B := w.heap.size) [M] _ s8.st.below.size s8.mks (fun w'' sh => ⟨_, results_tmp rfl _ _ _, rfl, s8.st.below.trans sh.below⟩)
              · have hge : 0 ≤ frame := by omega
                have q0 : decide (frame < 0) = false := by simpa using hneg
                cases hh : hasC Z frame
                · have HH := Lib.hid hh
                  have hadd : addC Z frame = (0, Z ++ [(frame, (true, true))]) := by unfold addC; rw [if_neg hneg, if_neg (by rw [hh]; decide)]
                  have HADD := Lib.hid hadd
                  clear hh hadd
                  go_wp2_with fail
                  refine (has_st sE.st hfr HH.out).mono ?_
                  rintro e w6 ⟨rfl, b6⟩
                  have s6 := sE.below b6
                  clear sE b6
                  go_wp2_with fail
                  refine (add_st s6.st (by rw [HL.out]; omega) hfr HADD.out).mono ?_
                  rintro e w7 ⟨rfl, g7, hg7, s7, t7⟩
                  have n7 := s6.tri s7 t7 hg7
                  have cB := n7.m.cell
                  clear s6 s7 t7 hg7
                  go_wp2_with fail
                  clear cB
                  go_loopw [133] (fun v wr => ∃ i : Nat, i ≤ n ∧ v = .int .i64 i ∧ ∃ g, NC w wr D b g (turnF Z (frame, (true, true)) i) B ta n tc gt tO (Z.map Prod.fst) [M]) (fun v _ => n - (intOf v).toNat)
                  case atStart => exact ⟨0, by omega, rfl, g7, by rw [turnF_zero]; exact n7⟩
                  case round =>
                    clear n7
                    obtain ⟨i, hi', rfl, g8, n8⟩ := hrel
                    by_cases hin' : i < n
                    · omega
                    · have hint' : ¬ (i : Int) < (n : Int) := by omega
                      have hint3 : (n : Int) ≤ (i : Int) := by omega
                      go_wp2_with fail
                      refine (known_any _).mono ?_
                      rintro e wA ⟨rfl, bA⟩
                      have sA := n8.below bA
                      go_wp2_with fail
                      refine leaves_marks (B := w.heap.size) [M] _ sA.st.below.size sA.mks (fun w'' sh => ⟨_, results_tmp rfl _ _ _, rfl, sA.st.below.trans sh.below⟩)
                · have HH := Lib.hid hh
                  clear hh
                  go_wp2_with fail
                  refine (has_st sE.st hfr HH.out).mono ?_
                  rintro e w6 ⟨rfl, b6⟩
                  have s6 := sE.below b6
                  go_wp2_with fail
                  refine (known_any _).mono ?_
                  rintro e wA ⟨rfl, bA⟩
                  have sA := s6.below bA
                  go_wp2_with fail
                  refine leaves_marks (B := w.heap.size) [M] _ sA.st.below.size sA.mks (fun w'' sh => ⟨_, results_tmp rfl _ _ _, rfl, sA.st.below.trans sh.below⟩)
            · have hn1 : (0 : Int) < (n : Int) := by omega
              have hn2 : (n : Int) ≠ 0 := by omega
              obtain ⟨q, hq, hmod⟩ := mod_any gone (n := n) (by omega) (by omega)
              obtain ⟨x, hx⟩ : ∃ x, Z[q]? = some x := ⟨_, List.getElem?_eq_getElem (by rw [HL.out]; omega)⟩
              have hkd := s2.st.kd (List.mem_of_getElem? hx)
              have hrem : removeC Z x.1 = (0, Z.filter fun e => e.1 != x.1) := by
                unfold removeC
                rw [if_pos (hasC_true.2 ⟨x.2, List.mem_of_getElem? hx⟩)]
              have HO := Lib.hid (fun i y (hi : Z[i]? = some y) (hne : i ≠ q) => out_get s2.st.ok hx hi hne)
              have HU := Lib.hid (fun i y (hi : Z[i]? = some y) => uniq s2.st.ok hx hi)
              have hzf := zero_filter HZ.out (fun e => e.1 != x.1)
              have hlf := List.length_filter_le (fun e : En => e.1 != x.1) Z
              rw [HL.out] at hlf
              generalize (Z.filter fun e => e.1 != x.1) = Z' at *
              have hxm : (Z.map Prod.fst)[q]? = some x.1 := by rw [List.getElem?_map, hx]; rfl
              have hcq := s2.r.ring.cell q x.1 hxm
              have hpos := s2.r.ring.pos (by omega)
              subst hpos
              have HREM := Lib.hid hrem
              have HZF := Lib.hid hzf
              clear hx hxm hrem hzf
              obtain ⟨xf, xm⟩ := x
              simp only at hkd hcq HREM HO HU
              have hq0 : (0 : Int) ≤ (q : Int) := by omega
              have hq1 : (q : Int) < (n : Int) := by omega
              have hwn : IntKind.u64.wrap ((n : Nat) : Int) = (n : Int) := by rw [IntKind.wrap_u64]; omega
              have hwq : IntKind.i64.wrap ((q : Nat) : Int) = (q : Int) := by rw [IntKind.wrap_i64]; omega
              have hwq2 : IntKind.u64.wrap ((q : Nat) : Int) = (q : Int) := by rw [IntKind.wrap_u64]; omega
              go_wp2_with fail
              go_quiet (fail)
              clear hmod hwn hwq hwq2
              go_wp2_with fail
              refine (copy_here (s2.below (below_drewN (Below.refl _ _) _)).st (by rw [HL.out]; omega)).mono ?_
              rintro e W2 ⟨D2, b2, g2, rfl, c2, bl2⟩
              generalize hW3 : W.drewN _ = W3 at *
              have s3 : NC w W3 D b g Z B (some ⟨gt, tO, none⟩) n tc gt tO (Z.map Prod.fst) [M] := by rw [← hW3]; exact s2.below (below_drewN (Below.refl _ _) _)
              clear hW3
              clear s2 cB hcq bl2
              go_wp2_with fail
              refine (remove_st c2 hkd HREM.out).mono ?_
              rintro e W5 ⟨rfl, g5, hg5, s5, t5⟩
              clear hg5 t5 c2
              have n5 := s3.below s5.below
              have cB := n5.m.cell
              go_wp2_with fail
              clear cB n5
              go_loopw [94] (fun v wr => ∃ i : Nat, i ≤ n ∧ v = .int .i64 i ∧ ∃ g, St W3 wr D2 b2 g (turn Z' (outI q i))) (fun v _ => n - (intOf v).toNat)
              case atStart => exact ⟨0, by omega, rfl, g5, by rw [show outI q 0 = 0 by simp [outI], turn_zero]; exact s5⟩
              case round =>
                clear s5
                obtain ⟨i, hi', rfl, g6, s6⟩ := hrel
                have n6 := s3.below s6.below
                have cB := n6.m.cell
                by_cases hin' : i < n
                · obtain ⟨y, hy⟩ : ∃ y, Z[i]? = some y := ⟨_, List.getElem?_eq_getElem (by rw [HL.out]; omega)⟩
                  have hym : (Z.map Prod.fst)[i]? = some y.1 := by rw [List.getElem?_map, hy]; rfl
                  have hcy := n6.r.ring.cell i y.1 hym
                  have hiff := HU.out i y hy
                  have hint' : (i : Int) < (n : Int) := by omega
                  have hi0 : (0 : Int) ≤ (i : Int) := by omega
                  by_cases hiq : i = q
                  · have q1 : (y.1 == xf) = true := by rw [hiff.2 hiq]; simp
                    have HOI := Lib.hid (show outI q (i + 1) = outI q i by rw [hiq]; exact outI_at q)
                    obtain ⟨f, fm⟩ := y
                    simp only at hcy q1
                    clear hiff hy hym hiq
                    go_wp2_with fail
                    go_roundw
                    case rel => exact ⟨i + 1, by omega, by go_num, g6, by rw [HOI.out]; exact s6⟩
                    case measure => simp [intOf]; omega
                  · have q1 : (y.1 == xf) = false := beq_eq_false_iff_ne.2 (fun e => hiq (hiff.1 e))
                    have HOI := Lib.hid (outI_succ hiq)
                    obtain ⟨z, hz, hzy⟩ := HO.out i y hy hiq
                    have hnx := next_turn HZF.out hz
                    rw [hzy] at hnx
                    have HX := Lib.hid hnx
                    have HM := Lib.hid hym
                    have hl6 : (turn Z' (outI q i)).length ≤ 1000000 := by rw [turn, List.length_append, List.length_drop, List.length_take]; omega
                    obtain ⟨f, fm⟩ := y
                    simp only at hcy q1
                    clear hiff hy hym hiq hz hzy hnx
                    go_wp2_with fail
                    refine (next_st s6 hl6 HX.out).mono ?_
                    rintro e w9 ⟨rfl, g9, hg9, s9, t9⟩
                    have n9 := s3.below s9.below
                    clear hg9 t9 s6 n6 hl6 cB hcy
                    have cB := n9.m.cell
                    have hcy := n9.r.ring.cell i f HM.out
                    unfold toldV
                    go_wp2_with fail
                    go_roundw
                    case rel => exact ⟨i + 1, by omega, by go_num, g9, by rw [HOI.out]; exact s9⟩
                    case measure => simp [intOf]; omega
                · have hint' : ¬ (i : Int) < (n : Int) := by omega
                  have hint3 : (n : Int) ≤ (i : Int) := by omega
                  have sE := n6
                  clear s6 n6 s3 HO HU HREM HZF hkd
                  by_cases hneg : frame < 0
                  · have q0 : decide (frame < 0) = true := by simpa using hneg
                    go_wp2_with fail
                    refine (known_any _).mono ?_
                    rintro e w8 ⟨rfl, b8⟩
                    have s8 := sE.below b8
                    go_wp2_with fail
                    refine leaves_marks (B := w.heap.size) [M] _ s8.st.below.size s8.mks (fun w'' sh => ⟨_, results_tmp rfl _ _ _, rfl, s8.st.below.trans sh.below⟩)
                  · have hge : 0 ≤ frame := by omega
                    have q0 : decide (frame < 0) = false := by simpa using hneg
                    cases hh : hasC Z frame
                    · have HH := Lib.hid hh
                      have hadd : addC Z frame = (0, Z ++ [(frame, (true, true))]) := by unfold addC; rw [if_neg hneg, if_neg (by rw [hh]; decide)]
                      have HADD := Lib.hid hadd
                      clear hh hadd
                      go_wp2_with fail
                      refine (has_st sE.st hfr HH.out).mono ?_
                      rintro e w6 ⟨rfl, b6⟩
                      have s6 := sE.below b6
                      clear sE b6
                      go_wp2_with fail
                      refine (add_st s6.st (by rw [HL.out]; omega) hfr HADD.out).mono ?_
                      rintro e w7 ⟨rfl, g7, hg7, s7, t7⟩
                      have n7 := s6.tri s7 t7 hg7
                      have cB := n7.m.cell
                      clear s6 s7 t7 hg7
                      go_wp2_with fail
                      clear cB
                      go_loopw [133] (fun v wr => ∃ i : Nat, i ≤ n ∧ v = .int .i64 i ∧ ∃ g, NC w wr D b g (turnF Z (frame, (true, true)) i) B (some ⟨gt, tO, none⟩) n tc gt tO (Z.map Prod.fst) [M]) (fun v _ => n - (intOf v).toNat)
                      case atStart => exact ⟨0, by omega, rfl, g7, by rw [turnF_zero]; exact n7⟩
                      case round =>
                        clear n7
                        obtain ⟨i, hi', rfl, g8, n8⟩ := hrel
                        by_cases hin' : i < n
                        · obtain ⟨x, hx⟩ : ∃ x, Z[i]? = some x := ⟨_, List.getElem?_eq_getElem (by rw [HL.out]; omega)⟩
                          have hnx := next_turnF HZ.out (frame, (true, true)) hx
                          have hl6 : (turnF Z (frame, (true, true)) i).length ≤ 1000000 := by rw [turnF_len _ _ (by rw [HL.out]; omega), HL.out]; omega
                          have hxm : (Z.map Prod.fst)[i]? = some x.1 := by rw [List.getElem?_map, hx]; rfl
                          have HX := Lib.hid hnx
                          have HM := Lib.hid hxm
                          have hint' : (i : Int) < (n : Int) := by omega
                          obtain ⟨f, fm⟩ := x
                          clear hx hnx hxm
                          go_wp2_with fail
                          refine (next_st n8.st hl6 HX.out).mono ?_
                          rintro e w9 ⟨rfl, g9, hg9, s9, t9⟩
                          have n9 := n8.tri s9 t9 hg9
                          clear hg9 t9 s9 n8 hl6
                          have cB := n9.m.cell
                          have hcy := n9.r.ring.cell i f HM.out
                          have hle := n9.r.ring.le
                          unfold toldV
                          go_wp2_with fail
                          go_roundw
                          case rel => exact ⟨i + 1, by omega, by go_num, g9, n9⟩
                          case measure => simp [intOf]; omega
                        · have hint' : ¬ (i : Int) < (n : Int) := by omega
                          have hint3 : (n : Int) ≤ (i : Int) := by omega
                          go_wp2_with fail
                          refine (known_any _).mono ?_
                          rintro e wA ⟨rfl, bA⟩
                          have sA := n8.below bA
                          go_wp2_with fail
                          refine leaves_marks (B := w.heap.size) [M] _ sA.st.below.size sA.mks (fun w'' sh => ⟨_, results_tmp rfl _ _ _, rfl, sA.st.below.trans sh.below⟩)
                    · have HH := Lib.hid hh
                      clear hh
                      go_wp2_with fail
                      refine (has_st sE.st hfr HH.out).mono ?_
                      rintro e w6 ⟨rfl, b6⟩
                      have s6 := sE.below b6
                      go_wp2_with fail
                      refine (known_any _).mono ?_
                      rintro e wA ⟨rfl, bA⟩
                      have sA := s6.below bA
                      go_wp2_with fail
                      refine leaves_marks (B := w.heap.size) [M] _ sA.st.below.size sA.mks (fun w'' sh => ⟨_, results_tmp rfl _ _ _, rfl, sA.st.below.trans sh.below⟩)
end Go.Proofs.Ythgajdaiklfjhaa
