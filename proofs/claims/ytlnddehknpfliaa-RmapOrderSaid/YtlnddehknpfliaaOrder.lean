/-
  The walk of the law RmapOrder.
-/
import Derived.Test.YtlnddehknpfliaaOrderP
import Derived.Test.YtlnddehknpfliaaOpsI
namespace Go.Proofs.Ytlnddehknpfliaa
open Go.RowKit

/-- A row of a call, copied. -/
def R3 (W : World) (Y : Nat) (v : Nat → Int) : Prop := Y < W.heap.size ∧ W.cell? ⟨Y, 1, none⟩ = some (.int .i64 (v 1)) ∧ W.cell? ⟨Y, 2, none⟩ = some (.int .i64 (v 2)) ∧ W.cell? ⟨Y, 3, none⟩ = some (.int .i64 (v 3))
theorem R3.two {W W' : World} {Y F b : Nat} {v : Nat → Int} (h : R3 W Y v) (k : Two W W' F b) (h1 : Y ≠ F) (h2 : Y ≠ b) : R3 W' Y v := by
  have e := k.block Y h.1 h1 h2
  exact ⟨Nat.lt_of_lt_of_le h.1 k.size, (World.cell?_of_block (w := W) e).trans h.2.1, (World.cell?_of_block (w := W) e).trans h.2.2.1, (World.cell?_of_block (w := W) e).trans h.2.2.2⟩
theorem r3_new (w : World) (v u : Nat → Int) :
    R3 ((w.alloc (.cells #[.int .i64 (v 0), .int .i64 (v 1), .int .i64 (v 2), .int .i64 (v 3)] 25)).alloc (.cells #[.int .i64 (u 0), .int .i64 (u 1), .int .i64 (u 2), .int .i64 (u 3)] 25)).drew w.heap.size v ∧
    R3 ((w.alloc (.cells #[.int .i64 (v 0), .int .i64 (v 1), .int .i64 (v 2), .int .i64 (v 3)] 25)).alloc (.cells #[.int .i64 (u 0), .int .i64 (u 1), .int .i64 (u 2), .int .i64 (u 3)] 25)).drew (w.heap.size + 1) u ∧
    Below w.heap.size w ((w.alloc (.cells #[.int .i64 (v 0), .int .i64 (v 1), .int .i64 (v 2), .int .i64 (v 3)] 25)).alloc (.cells #[.int .i64 (u 0), .int .i64 (u 1), .int .i64 (u 2), .int .i64 (u 3)] 25)).drew := by
  refine ⟨⟨?_, ?_, ?_, ?_⟩, ⟨?_, ?_, ?_, ?_⟩, below_drewN (below_alloc (below_new _ _) _) 1⟩
  · show _ < (World.alloc _ _).heap.size
    simp only [World.size_alloc]; omega
  · go_simp
  · go_simp
  · go_simp
  · show _ < (World.alloc _ _).heap.size
    simp only [World.size_alloc]; omega
  · go_simp
  · go_simp
  · go_simp

set_option maxRecDepth 100000 in
set_option maxHeartbeats 8000000 in
theorem order_any (n0 : Int) (a : Option Addr) (len cap bo off : Nat) (V : Nat → Nat → Int) (w : World) (o : OpsI w a len bo off 4 V) (hlen : len ≤ 9223372036854775807) :
    Calls Try.prog 3 #[.int .i64 n0, .slice a len cap] w fun e w' => e = .returned (.bool true) ∧ Below w.heap.size w w' := by
  by_cases h1 : 60 < len
  · go_enter Try.func3, Try.ntmps3
    go_wp2_with fail
    refine (known_any w).mono ?_
    rintro e w' ⟨rfl, hb⟩
    go_wp2_with fail
    go_ret
    exact ⟨rfl, hb⟩
  by_cases h0 : 40 < n0
  · have d2 : decide ((60 : Int) < (len : Int)) = false := by simp; omega
    have d3 : decide (60 < len) = false := by simp; omega
    go_enter Try.func3, Try.ntmps3
    go_wp2_with fail
    refine (known_any w).mono ?_
    rintro e w' ⟨rfl, hb⟩
    go_wp2_with fail
    go_ret
    exact ⟨rfl, hb⟩
  have d1 : decide ((40 : Int) < n0) = false := by simp; omega
  have d2 : decide ((60 : Int) < (len : Int)) = false := by simp; omega
  have d3 : decide (60 < len) = false := by simp; omega
  go_enter Try.func3, Try.ntmps3
  go_wp2_with fail
  clear d1 d2 d3
  go_loopw [29] (fun i wr => ∃ k : Nat, k ≤ len ∧ i = .int .i64 k ∧ (∃ d, wr = w.drewN d) ∧ Unlike V k) (fun i _ => len - (intOf i).toNat)
  case atStart => exact ⟨0, by omega, rfl, ⟨0, rfl⟩, fun i k hi => by omega⟩
  case round =>
    obtain ⟨i, hi, rfl, ⟨d, rfl⟩, hu⟩ := hrel
    have HU := Lib.hid hu
    clear hu
    by_cases hlt : i < len
    · have ci1 := o.cell i hlt 1 (by omega)
      have ci2 := o.cell i hlt 2 (by omega)
      have ci3 := o.cell i hlt 3 (by omega)
      obtain rfl := o.at_ (by omega)
      go_wp2_with fail
      go_loopw [33] (fun v wr => ∃ k : Nat, k ≤ i ∧ v = .int .i64 k ∧ (∃ d, wr = w.drewN d) ∧ ∀ t, t < k → V i 1 ≠ V t 1 ∧ ¬ (V i 2 = V t 2 ∧ V i 3 = V t 3)) (fun v _ => i - (intOf v).toNat)
      case atStart => exact ⟨0, by omega, rfl, ⟨d, rfl⟩, fun t ht => by omega⟩
      case round =>
        obtain ⟨k, hk, rfl, ⟨d', rfl⟩, hq⟩ := hrel
        have HQ := Lib.hid hq
        clear hq
        by_cases hki : k < i
        · have ck1 := o.cell k (by omega) 1 (by omega)
          have ck2 := o.cell k (by omega) 2 (by omega)
          have ck3 := o.cell k (by omega) 3 (by omega)
          by_cases e1 : V i 1 = V k 1
          · have q1 : (V i 1 == V k 1) = true := by rw [e1]; simp
            clear e1
            go_wp2_with fail
            go_quiet (fail)
            go_wp2_with fail
            refine (known_any _).mono ?_
            rintro e w' ⟨rfl, hb⟩
            go_wp2_with fail
            go_ret
            exact ⟨rfl, below_then (below_drewN (Below.refl _ _) _) hb⟩
          · have q1 : (V i 1 == V k 1) = false := beq_eq_false_iff_ne.2 e1
            have E1 := Lib.hid e1
            clear e1
            by_cases e2 : V i 2 = V k 2
            · have q2 : (V i 2 == V k 2) = true := by rw [e2]; simp
              by_cases e3 : V i 3 = V k 3
              · have q3 : (V i 3 == V k 3) = true := by rw [e3]; simp
                clear e2 e3
                go_wp2_with fail
                go_quiet (fail)
                go_wp2_with fail
                refine (known_any _).mono ?_
                rintro e w' ⟨rfl, hb⟩
                go_wp2_with fail
                go_ret
                exact ⟨rfl, below_then (below_drewN (Below.refl _ _) _) hb⟩
              · have q3 : (V i 3 == V k 3) = false := beq_eq_false_iff_ne.2 e3
                have E3 := Lib.hid e3
                clear e2 e3
                go_wp2_with fail
                go_quiet (fail)
                go_wp2_with fail
                go_roundw
                case rel => exact ⟨k + 1, by omega, by go_num, ⟨_, rfl⟩, fun t ht => by
                  rcases Nat.lt_or_ge t k with h | h
                  · exact HQ.out t h
                  · obtain rfl : t = k := by omega
                    exact ⟨E1.out, fun h => E3.out h.2⟩⟩
                case measure => simp [intOf]; omega
            · have q2 : (V i 2 == V k 2) = false := beq_eq_false_iff_ne.2 e2
              have E2 := Lib.hid e2
              clear e2
              go_wp2_with fail
              go_quiet (fail)
              go_wp2_with fail
              go_roundw
              case rel => exact ⟨k + 1, by omega, by go_num, ⟨_, rfl⟩, fun t ht => by
                rcases Nat.lt_or_ge t k with h | h
                · exact HQ.out t h
                · obtain rfl : t = k := by omega
                  exact ⟨E1.out, fun h => E2.out h.1⟩⟩
              case measure => simp [intOf]; omega
        · have hki' : k = i := by omega
          subst hki'
          go_wp2_with fail
          go_roundw
          case rel => exact ⟨k + 1, by omega, by go_num, ⟨_, rfl⟩, fun x y hx hy hne => by
            rcases Nat.lt_or_ge x k with h | h
            · rcases Nat.lt_or_ge y k with h' | h'
              · exact HU.out x y h h' hne
              · obtain rfl : y = k := by omega
                have := HQ.out x h
                exact ⟨fun e => this.1 e.symm, fun e => this.2 ⟨e.1.symm, e.2.symm⟩⟩
            · obtain rfl : x = k := by omega
              exact HQ.out y (by omega)⟩
          case measure => simp [intOf]; omega
    · have hil : i = len := by omega
      rw [hil] at HU ⊢
      clear hil hlt hi
      go_wp2_with fail
      have bd : Below w.heap.size w (w.drewN d) := below_drewN (Below.refl _ _) d
      generalize w.drewN d = w1 at *
      refine (new_st bd n0 rfl).mono ?_
      rintro e w2 ⟨rfl, sa, bN⟩
      have hN := clampN_le n0
      generalize hcl : clampN n0 = n at *
      have HN := Lib.hid hcl
      clear hcl
      go_wp2_with fail
      refine (new_st sa.below n0 (m := n) ?_).mono ?_
      · exact HN.out
      rintro e w3 ⟨rfl, sb, bM⟩
      have sa' := sa.belowW bM
      have hlt2 := sa.tt.srow.lt
      clear sa bN bM bd
      have hAp : Ap (w1.heap.size + 2) w1.heap.size (w1.heap.size + 1) (w2.heap.size + 2) w2.heap.size (w2.heap.size + 1) := ⟨by omega, by omega, by omega, by omega, by omega, by omega⟩
      have hBp : Ap (w2.heap.size + 2) w2.heap.size (w2.heap.size + 1) (w1.heap.size + 2) w1.heap.size (w1.heap.size + 1) := ⟨by omega, by omega, by omega, by omega, by omega, by omega⟩
      clear hlt2
      generalize w1.heap.size = Fa at *
      generalize w2.heap.size = Fb at *
      generalize Fa + 2 = Da at *
      generalize Fa + 1 = ba at *
      generalize Fb + 2 = Db at *
      generalize Fb + 1 = bb at *
      go_wp2_with fail
      go_loopw [82] (fun v wr => ∃ k : Nat, k ≤ len ∧ v = .int .i64 k ∧ ∃ fa fb : Fr, St w wr Da Fa ba n n fa ∧ St w wr Db Fb bb n n fb ∧ Holds n V (· < k) fa ∧ Holds n V (fun j => len ≤ j + k ∧ j < len) fb) (fun v _ => len - (intOf v).toNat)
      case atStart => exact ⟨0, by omega, rfl, _, _, sa', sb, holds_none _ _ (by omega), holds_none _ _ (fun j => by omega)⟩
      case round =>
        clear sa' sb
        obtain ⟨k, hk, rfl, fa, fb, sa, sb, ha, hb⟩ := hrel
        by_cases hlt : k < len
        · obtain ⟨q, hq⟩ : ∃ q, q = len - 1 - k := ⟨_, rfl⟩
          have hw : IntKind.i64.wrap (IntKind.i64.wrap ((len : Int) - 1) - (k : Int)) = (q : Int) := by
            rw [show IntKind.i64.wrap ((len : Int) - 1) = (len : Int) - 1 by rw [IntKind.wrap_i64]; omega]
            rw [IntKind.wrap_i64]; omega
          have hi0 : (0 : Int) ≤ (q : Int) := by omega
          have hi1 : (q : Int) < (len : Int) := by omega
          have hql : q < len := by omega
          have oa := o.below sa.below
          have i0 := oa.c0 hlt (by omega)
          have i1 := oa.cell k hlt 1 (by omega)
          have i2 := oa.cell k hlt 2 (by omega)
          have i3 := oa.cell k hlt 3 (by omega)
          have j0 := oa.c0 hql (by omega)
          have j1 := oa.cell q hql 1 (by omega)
          have j2 := oa.cell q hql 2 (by omega)
          have j3 := oa.cell q hql 3 (by omega)
          have hbo := oa.lt (by omega)
          have z1 := sa.tt.ltF.2
          have z2 := sa.tt.ltb.2
          have z3 := sb.tt.ltF.2
          have z4 := sb.tt.ltb.2
          obtain rfl := o.at_ (by omega)
          obtain ⟨ea, fa', ea1, ea2, ea3⟩ := step_set sa.tt.ok ha HU.out hlt (fun i hi => ⟨by omega, by omega⟩)
          obtain ⟨eb, fb', eb1, eb2, eb3⟩ := step_set sb.tt.ok hb HU.out hql (fun i hi => ⟨by omega, by omega⟩)
          have EA1 := Lib.hid ea1
          have EA2 := Lib.hid ea2
          have EB1 := Lib.hid eb1
          have EB2 := Lib.hid eb2
          have EB3 := Lib.hid eb3
          have HQ := Lib.hid hq
          clear ea1 ea2 ea3 eb1 eb2 eb3 ha hb oa hq
          go_wp2_with fail
          go_region_held3 (fun w' => w'.cell? ⟨bo, off + k * 4, none⟩ = some (.int .i64 (V k 0)) ∧ w'.cell? ⟨bo, off + k * 4 + 1, none⟩ = some (.int .i64 (V k 1)) ∧ w'.cell? ⟨bo, off + k * 4 + 2, none⟩ = some (.int .i64 (V k 2)) ∧ w'.cell? ⟨bo, off + k * 4 + 3, none⟩ = some (.int .i64 (V k 3)) ∧
              w'.cell? ⟨bo, off + q * 4, none⟩ = some (.int .i64 (V q 0)) ∧ w'.cell? ⟨bo, off + q * 4 + 1, none⟩ = some (.int .i64 (V q 1)) ∧ w'.cell? ⟨bo, off + q * 4 + 2, none⟩ = some (.int .i64 (V q 2)) ∧ w'.cell? ⟨bo, off + q * 4 + 3, none⟩ = some (.int .i64 (V q 3)))
            (go_keep) (fail)
          all_goals
            first
              | obtain ⟨rx, ry, bW⟩ := r3_new wr (V k) (V q)
                obtain ⟨Wf, hWf⟩ : ∃ x, x = ((wr.alloc (.cells #[.int .i64 (V k 0), .int .i64 (V k 1), .int .i64 (V k 2), .int .i64 (V k 3)] 25)).alloc (.cells #[.int .i64 (V q 0), .int .i64 (V q 1), .int .i64 (V q 2), .int .i64 (V q 3)] 25)).drew := ⟨_, rfl⟩
                rw [← hWf]
                rw [← hWf] at rx ry bW
                have hY : wr.heap.size + 1 ≠ Fa ∧ wr.heap.size + 1 ≠ ba ∧ wr.heap.size + 1 ≠ Fb ∧ wr.heap.size + 1 ≠ bb := ⟨by omega, by omega, by omega, by omega⟩
                have sa1 := sa.belowW bW
                have sb1 := sb.belowW bW
                clear hWf bW i0 i1 i2 i3 j0 j1 j2 j3 hbo z1 z2 z3 z4 sa sb
                generalize wr.heap.size + 1 = Y at *
                generalize wr.heap.size = X at *
              | obtain ⟨ry, rx, bW⟩ := r3_new wr (V q) (V k)
                obtain ⟨Wf, hWf⟩ : ∃ x, x = ((wr.alloc (.cells #[.int .i64 (V q 0), .int .i64 (V q 1), .int .i64 (V q 2), .int .i64 (V q 3)] 25)).alloc (.cells #[.int .i64 (V k 0), .int .i64 (V k 1), .int .i64 (V k 2), .int .i64 (V k 3)] 25)).drew := ⟨_, rfl⟩
                rw [← hWf]
                rw [← hWf] at rx ry bW
                have hY : wr.heap.size ≠ Fa ∧ wr.heap.size ≠ ba ∧ wr.heap.size ≠ Fb ∧ wr.heap.size ≠ bb := ⟨by omega, by omega, by omega, by omega⟩
                have sa1 := sa.belowW bW
                have sb1 := sb.belowW bW
                clear hWf bW i0 i1 i2 i3 j0 j1 j2 j3 hbo z1 z2 z3 z4 sa sb
                generalize wr.heap.size + 1 = X at *
                generalize wr.heap.size = Y at *
            obtain ⟨-, x1, x2, x3⟩ := rx
            go_wp2_with fail
            refine (set_st sa1 _ _ _ EA1.out).mono ?_
            rintro e w5 ⟨rfl, sa2, t5⟩
            have sb2 := sb1.other t5 hBp sa1.tt.ltF.1 sa1.tt.ltb.1
            have ry5 := ry.two t5 hY.1 hY.2.1
            have y1 := ry5.2.1
            have y2 := ry5.2.2.1
            have y3 := ry5.2.2.2
            clear sa1 sb1 t5 x1 x2 x3 ry
            go_wp2_with fail
            refine (set_st sb2 _ _ _ EB1.out).mono ?_
            rintro e w6 ⟨rfl, sb3, t6⟩
            have sa3 := sa2.other t6 hAp sb2.tt.ltF.1 sb2.tt.ltb.1
            have ry6 := ry5.two t6 hY.2.2.1 hY.2.2.2
            have y1 := ry6.2.1
            have y2 := ry6.2.2.1
            have y3 := ry6.2.2.2
            clear sb2 sa2 t6 ry5
            have ha' : Holds n V (· < k + 1) fa' := EA2.out.congr fun j => by show (j < k ∨ j = k) ↔ j < k + 1; omega
            have hb' : Holds n V (fun j => len ≤ j + (k + 1) ∧ j < len) fb' := EB2.out.congr fun j => by
              have := HQ.out
              show ((len ≤ j + k ∧ j < len) ∨ j = q) ↔ (len ≤ j + (k + 1) ∧ j < len); omega
            have HA' := Lib.hid ha'
            have HB' := Lib.hid hb'
            clear ha' hb'
            rcases EB3.out with he | ⟨he, g, eg1, eg2⟩
            · subst he
              go_wp2_with fail
              go_roundw
              case rel => exact ⟨k + 1, by omega, by go_num, fa', fb', sa3, sb3, HA'.out, HB'.out⟩
              case measure => simp [intOf]; omega
            · subst he
              have EG1 := Lib.hid eg1
              have EG2 := Lib.hid eg2
              clear eg1 eg2
              go_wp2_with fail
              refine (clear_st sb3 _ EG1.out).mono ?_
              rintro e w7 ⟨rfl, sb4, t7⟩
              have sa4 := sa3.other t7 hAp sb3.tt.ltF.1 sb3.tt.ltb.1
              have ry7 := ry6.two t7 hY.2.2.1 hY.2.2.2
              have y1 := ry7.2.1
              have y2 := ry7.2.2.1
              have y3 := ry7.2.2.2
              clear sb3 sa3 t7 ry6
              go_wp2_with fail
              refine (set_st sb4 _ _ _ EG2.out).mono ?_
              rintro e w8 ⟨rfl, sb5, t8⟩
              have sa5 := sa4.other t8 hAp sb4.tt.ltF.1 sb4.tt.ltb.1
              clear sb4 sa4 t8 ry7 y1 y2 y3
              go_wp2_with fail
              go_roundw
              case rel => exact ⟨k + 1, by omega, by go_num, fa', fb', sa5, sb5, HA'.out, HB'.out⟩
              case measure => simp [intOf]; omega
        · have hkl : k = len := by omega
          rw [hkl] at ha hb
          have hS := holds_same ha (hb.congr fun j => by show (len ≤ j + len ∧ j < len) ↔ j < len; omega)
          have HS := Lib.hid hS
          clear ha hb hS hkl
          go_wp2_with fail
          refine (frames_any sa.tt).mono ?_
          rintro e w' ⟨rfl, rfl⟩
          go_wp2_with fail
          go_loopw [135] (fun v wr => ∃ i : Nat, i ≤ n ∧ v = .int .i64 i ∧ St w wr Da Fa ba n n fa ∧ St w wr Db Fb bb n n fb) (fun v _ => n - (intOf v).toNat)
          case atStart => exact ⟨0, by omega, rfl, sa, sb⟩
          case round =>
            clear sa sb
            obtain ⟨i, hi, rfl, sa, sb⟩ := hrel
            by_cases hin : i < n
            · have ga : getF n fa (i : Int) = fa i := getF_nat hin
              have gb : getF n fb (i : Int) = fa i := by rw [getF_nat hin, HS.out i hin]
              have GA := Lib.hid ga
              have GB := Lib.hid gb
              have hp3 : ∀ x : Bool, (x != x) = false := fun x => by simp
              clear ga gb
              go_wp2_with fail
              refine (get_st sa _ GA.out).mono ?_
              rintro e w5 ⟨rfl, sa5, b5⟩
              have sb5 := sb.belowW b5
              clear sa sb b5
              go_wp2_with fail
              refine (get_st sb5 _ GB.out).mono ?_
              rintro e w6 ⟨rfl, sb6, b6⟩
              have sa6 := sa5.belowW b6
              clear sa5 sb5 b6
              go_wp2_with fail
              go_roundw
              case rel => exact ⟨i + 1, by omega, by go_num, sa6, sb6⟩
              case measure => simp [intOf]; omega
            · go_wp2_with fail
              refine (frames_any sa.tt).mono ?_
              rintro e w' ⟨rfl, rfl⟩
              go_wp2_with fail
              refine (frames_any sb.tt).mono ?_
              rintro e w' ⟨rfl, rfl⟩
              go_wp2_with fail
              refine (known_any _).mono ?_
              rintro e w' ⟨rfl, hb⟩
              go_wp2_with fail
              go_ret
              exact ⟨rfl, below_then sa.below hb⟩
end Go.Proofs.Ytlnddehknpfliaa
