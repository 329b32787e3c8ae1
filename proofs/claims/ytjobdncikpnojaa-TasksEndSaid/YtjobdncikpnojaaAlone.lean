/-
  The walk of the law TasksAlone.
-/
import Derived.Test.YtjobdncikpnojaaAloneS
import Derived.Test.YtjobdncikpnojaaIntsI
namespace Go.Proofs.Ytjobdncikpnojaa
open Go.RowKit
theorem info47 : (Try.prog.info? 47).map (fun i => (i.zero, i.size, i.bytes)) = some (some (.agg #[.int .i64 0, .int .i64 0]), 2, 16) := by kernel_rfl
theorem u64_mod (n : Int) : (IntKind.u64.wrap n).tmod 8 = lk8 n := by
  rw [IntKind.wrap_u64, Int.tmod_eq_emod_of_nonneg (by omega)]
  unfold lk8
  omega
theorem cells2_append (l m : List (Int × Int)) : cells2 (l ++ m) = cells2 l ++ cells2 m := by simp [cells2]
theorem cells2_len (l : List (Int × Int)) : (cells2 l).length = l.length * 2 := by
  induction l with
  | nil => rfl
  | cons x r ih => rw [cells2_cons, List.length_cons, List.length_cons, ih, List.length_cons]; omega
theorem OwnAt.acts {w : World} {base c g m : Nat} {a : Option Addr} {L : List (Int × Int)} (h : OwnAt w base 47 2 a m c g (cells2 L)) (hm : L.length = m) : ActsR w a L := ⟨fun hl => by
  refine ⟨g, 0, h.at_ (by omega), (h.blk _ (h.at_ (by omega))).2.2, fun i x hx => ?_⟩
  obtain ⟨h1, h2⟩ := cells2_at hx
  rw [Nat.zero_add]
  exact ⟨h.cell h1, h.cell h2⟩⟩
section
variable {w0 w w' : World} {T B n : Nat} {nx : Nat → Value} {dn : Nat → Int} {Z K TB c g : Nat} {h : Lk.Hold} {told : List (Int × Int)}
/-- What lies from Z on may turn, while nothing was told. -/
theorem SW.from (s : SW w0 w T B n nx dn Z K TB h none 0 TB []) (hs : w.heap.size ≤ w'.heap.size) (hb : ∀ i, i < Z → w'.heap[i]? = w.heap[i]?) (bl : Below w0.heap.size w0 w') : SW w0 w' T B n nx dn Z K TB h none 0 TB [] := by
  have hi := s.hi
  refine ⟨s.tt.of_blocks (hb T hi.1) (hb B hi.2.1), ⟨⟨s.lw.lk.row.of_block (hb K hi.2.2.1), s.lw.lk.le, s.lw.lk.ok⟩, (hb TB hi.2.2.2).trans s.lw.tb, ⟨World.ownsRow_nil _ _ _ _, fun h => absurd h (Nat.lt_irrefl _), fun b hb => by cases hb⟩, fun _ => rfl⟩, bl, s.lo, s.hi, s.ne, Nat.le_trans s.zw hs⟩
theorem sw_start (w : World) (n : Int) : ∃ W, W = (((newW w (clampN n)).alloc (.cells (Lk.newCells 8) 71)).alloc (.cells #[.slice none 0 0] 42)) ∧
    SW w W (w.heap.size + 1) w.heap.size (clampN n) (fun _ => .nilFunc) (fun _ => 0) (w.heap.size + 4) (w.heap.size + 2) (w.heap.size + 3) Lk.free none 0 (w.heap.size + 3) [] := by
  have hs : (newW w (clampN n)).heap.size = w.heap.size + 2 := by unfold newW; simp
  have b1 := below_newW w (clampN n)
  have t1 := tt_new w (clampN n) (clampN_le n)
  have b2 := below_new (newW w (clampN n)) (.cells (Lk.newCells 8) 71)
  have k2 := Lk.tab_new (newW w (clampN n)) 8 (by decide)
  rw [hs] at k2
  have b3 := below_new ((newW w (clampN n)).alloc (.cells (Lk.newCells 8) 71)) (.cells #[.slice none 0 0] 42)
  have tb := Boxed.new ((newW w (clampN n)).alloc (.cells (Lk.newCells 8) 71)) 42 (.slice none 0 0)
  rw [size1, hs] at tb
  refine ⟨_, rfl, ⟨?_, ⟨⟨rowIs_below k2.row b3, k2.le, k2.ok⟩, tb, ⟨World.ownsRow_nil _ _ _ _, fun h => absurd h (Nat.lt_irrefl _), fun b hb => by cases hb⟩, fun _ => rfl⟩, below_then (below_then b1 b2) b3, ⟨by omega, Nat.le_refl _, by omega, by omega⟩, ⟨by omega, by omega, by omega, by omega⟩, ⟨by omega, by omega, by omega, by omega⟩, by rw [size1, size1, hs]; omega⟩⟩
  have t2 := t1.of_blocks (b2.block _ t1.lt) (b2.block _ t1.ltB)
  exact t2.of_blocks (b3.block _ t2.lt) (b3.block _ t2.ltB)
end
set_option maxRecDepth 100000 in
set_option maxHeartbeats 8000000 in
theorem alone_any (a : Option Addr) (len cap bo off : Nat) (V : Nat → Int) (w : World) (o : IntsI w a len bo off V) (hlen : len ≤ 9223372036854775807) :
    Calls Try.prog 5 #[.slice a len cap] w fun e w' => e = .returned (.bool true) ∧ Below w.heap.size w w' := by
  by_cases hbad : len = 0 ∨ 30 < len
  · rcases hbad with h | h
    · subst h
      have d1 : ((0 : Int) == 0) = true := rfl
      go_enter Try.func5, Try.ntmps5
      go_wp2_with fail
      refine (known_any w).mono ?_
      rintro e WF ⟨rfl, bF⟩
      go_wp2_with fail
      go_ret
      exact ⟨rfl, bF⟩
    · have d1 : ((len : Int) == 0) = false := by rw [beq_eq_false_iff_ne]; omega
      have d1' : (len == 0) = false := by rw [beq_eq_false_iff_ne]; omega
      have d2 : decide ((30 : Int) < (len : Int)) = true := by simp; omega
      go_enter Try.func5, Try.ntmps5
      go_wp2_with fail
      refine (known_any w).mono ?_
      rintro e WF ⟨rfl, bF⟩
      go_wp2_with fail
      go_ret
      exact ⟨rfl, bF⟩
  have d1 : ((len : Int) == 0) = false := by rw [beq_eq_false_iff_ne]; omega
  have d1' : (len == 0) = false := by rw [beq_eq_false_iff_ne]; omega
  have d2 : decide ((30 : Int) < (len : Int)) = false := by simp; omega
  have d3 : decide (30 < len) = false := by simp; omega
  have hl30 : len ≤ 30 := by omega
  have hl0 : 0 < len := by omega
  obtain ⟨WS, hWS, sS⟩ := sw_start w 1
  have HWS := Lib.hid hWS
  rw [show clampN 1 = 1 from rfl] at sS HWS
  have hs2 : (newW w 1).heap.size = w.heap.size + 2 := by unfold newW; simp
  have HS2 := Lib.hid hs2
  clear hbad hWS hs2
  go_enter Try.func5, Try.ntmps5
  go_wp2_with fail
  refine (new_any 1 w).mono ?_
  rintro e W1 ⟨rfl, rfl⟩
  rw [show clampN 1 = 1 from rfl]
  go_wp2_with fail
  refine (Lk.new_any 8 _).mono ?_
  rintro e W2 ⟨rfl, rfl⟩
  rw [show Lk.clampN 8 = 8 from rfl, HS2.out]
  go_upto_region 8 with fail
  rw [HS2.out, ← HWS.out, show w.heap.size + 2 + 1 = w.heap.size + 3 from rfl]
  generalize w.heap.size + 4 = Z at *
  generalize w.heap.size + 3 = TB at *
  generalize w.heap.size + 2 = K at *
  generalize w.heap.size + 1 = T at *
  generalize hB : w.heap.size = B at sS
  clear hB HWS HS2 d1 d1' d2 d3
  obtain ⟨P, hP⟩ : ∃ P : List Int, P = (List.range len).map V := ⟨_, rfl⟩
  have hPl : P.length = len := by rw [hP]; simp
  have hPg : ∀ k, k < len → P[k]? = some (V k) := fun k hk => by rw [hP, List.getElem?_map, List.getElem?_range hk]; rfl
  have HPG := Lib.hid hPg
  have HPL := Lib.hid hPl
  clear hP hPl hPg
  go_wp2_with fail
  go_loopw [6, 33] (fun v6 v wr => ∃ (k : Nat) (a' : Option Addr) (c' g' : Nat), k ≤ len ∧ v = .int .i64 k ∧ v6 = .slice a' (4 * k) c' ∧ OwnAt wr Z 47 2 a' (4 * k) c' g' (cells2 (actsA (P.take k))) ∧
    SW w wr T B 1 (fun _ => .nilFunc) (fun _ => 0) Z K TB Lk.free none 0 TB []) (fun _ v _ => len - (intOf v).toNat)
  case atStart => exact ⟨0, none, 0, 0, Nat.zero_le _, rfl, rfl, ⟨World.ownsRow_nil _ _ _ _, fun h => absurd h (Nat.lt_irrefl _), fun b hb => by cases hb⟩, sS⟩
  case round =>
    clear sS
    obtain ⟨k, a', c', g', hk, rfl, rfl, oa, s⟩ := hrel
    by_cases hlt : k < len
    · have o' := o.below s.bl
      have ck := o'.cell k hlt
      obtain rfl := o.at_ (by omega)
      clear o'
      have hu := u64_mod (V k)
      have hq := lk8_range (V k)
      have HT := Lib.hid (show cells2 (actsA (P.take (k + 1))) = cells2 (actsA (P.take k)) ++ [.int .i64 1, .int .i64 (lk8 (V k)), .int .i64 3, .int .i64 (lk8 (V k)), .int .i64 2, .int .i64 (lk8 (V k)), .int .i64 0, .int .i64 0] by
        rw [List.take_add_one, HPG.out k hlt]
        show cells2 (actsA (P.take k ++ [V k])) = _
        rw [actsA_snoc, cells2_append]
        rfl)
      generalize lk8 (V k) = q at *
      obtain ⟨i0, hi, hz0, hz1, hz2⟩ := info_parts info47
      have HO := Lib.hid (oa.own.alloc (.cells #[.int .i64 1, .int .i64 q, .int .i64 3, .int .i64 q, .int .i64 2, .int .i64 q, .int .i64 0, .int .i64 0] 47))
      have HR := Lib.hid (rd_new wr #[.int .i64 1, .int .i64 q, .int .i64 3, .int .i64 q, .int .i64 2, .int .i64 q, .int .i64 0, .int .i64 0] 47 2 4 rfl)
      have hZw := s.zw
      have hfin : ∀ (v1 : Value) (w1 : World), w1.ownsRow Z 47 2 v1 (4 * k + 4) (cells2 (actsA (P.take k)) ++ [.int .i64 1, .int .i64 q, .int .i64 3, .int .i64 q, .int .i64 2, .int .i64 q, .int .i64 0, .int .i64 0]) →
          (wr.alloc (.cells #[.int .i64 1, .int .i64 q, .int .i64 3, .int .i64 q, .int .i64 2, .int .i64 q, .int .i64 0, .int .i64 0] 47)).grownBy w1 (Value.slice a' (4 * k) c').ownBlock →
          ∃ a2 c2 g2, v1 = .slice a2 (4 * (k + 1)) c2 ∧ OwnAt w1 Z 47 2 a2 (4 * (k + 1)) c2 g2 (cells2 (actsA (P.take (k + 1)))) ∧ SW w w1 T B 1 (fun _ => .nilFunc) (fun _ => 0) Z K TB Lk.free none 0 TB [] := by
        intro v1 w1 ho hg
        rw [← HT.out] at ho
        obtain ⟨a2, c2, g2, rfl, oa2⟩ := own_at ho
        have bA := below_new wr (.cells #[.int .i64 1, .int .i64 q, .int .i64 3, .int .i64 q, .int .i64 2, .int .i64 q, .int .i64 0, .int .i64 0] 47)
        have oaA := oa.below bA
        refine ⟨a2, c2, g2, by rw [show 4 * (k + 1) = 4 * k + 4 by omega], by rw [show 4 * (k + 1) = 4 * k + 4 by omega]; exact oa2, s.from (Nat.le_trans bA.size hg.size) (fun i hi => ?_) (oaA.grown_below hg (below_then s.bl bA) (by have := s.bl.size; have := bA.size; omega) (by have := s.lo; have := s.hi; omega))⟩
        refine (oaA.grown_other hg (by have := bA.size; omega) (fun ha => ?_)).trans (bA.block i (by omega))
        obtain ⟨ad, rfl⟩ : ∃ ad, a' = some ad := by cases a' with | none => exact absurd rfl ha | some ad => exact ⟨ad, rfl⟩
        have := (oa.blk ad rfl).2.1
        omega
      have FIN := Lib.hid hfin
      clear hfin s oa
      go_wp2_with (at_builtin; refine wpList_append_rd _ rfl (.tmp 41) (.tmp 49) 44 rfl Z 47 i0 _ 2 16 Try.underlying44 hi hz0 hz1 hz2 rfl (by decide) (.slice a' (4 * k) c') (4 * k) (cells2 (actsA (P.take k))) rfl HO.out (some ⟨wr.heap.size, 0, none⟩) 4 4 _ rfl HR.out (by simp [Value.oneCell']) (by unfold maxLen; omega) (by omega) (by simp; omega) ?_)
      intro v1 w1 hown1 hgrow1 hat1 hnil1
      obtain ⟨a2, c2, g2, rfl, oa2, s2⟩ := FIN.out v1 w1 hown1 hgrow1
      clear hown1 hgrow1 hat1 hnil1
      go_wp2_with fail
      go_roundw
      case rel => exact ⟨k + 1, a2, c2, g2, by omega, by go_num, rfl, oa2, s2⟩
      case measure => simp [intOf]; omega
    · have hkl : k = len := by omega
      subst hkl
      have htk : P.take k = P := by rw [List.take_of_length_le (by rw [HPL.out]; exact Nat.le_refl _)]
      rw [htk] at oa
      have hL : (actsA P).length = 4 * k := by rw [actsA_len, HPL.out]
      have hprog := program_any K TB 0 wr (oa.acts hL) (by omega) (by rw [hL]; exact oa.le)
      rw [hL] at hprog
      have HLL := Lib.hid (And.intro hL hl30)
      clear hL htk oa
      have hk4 : 4 * k ≤ 120 := by omega
      have hk4' : 0 < 4 * k := by omega
      obtain ⟨M, hM⟩ : ∃ M, M = 4 * k := ⟨_, rfl⟩
      rw [← hM] at hprog HLL hk4 hk4'
      rw [← hM]
      have HM := Lib.hid hM
      clear hM
      go_wp2_with fail
      refine hprog.mono ?_
      rintro e w1 ⟨v, rfl, hpb, b1⟩
      have s1 := s.below b1
      clear hprog s b1
      obtain ⟨fa, fb, fc, rfl⟩ := hpb.func (by rw [HLL.out.1]; exact hk4')
      have a0 := alone_start s1 hpb rfl
      have t1 := s1.tt
      clear s1 hpb
      go_wp2_with fail
      refine (start_ok t1 0 (by decide) _ _ _ rfl).mono ?_
      rintro e w2 ⟨rfl, rfl⟩
      clear t1
      generalize w1.setCell ⟨B, 0 * 2, none⟩ (.func fa fb fc) = w2 at a0 ⊢
      go_wp2_with fail
      go_loopw [60] (fun v wr => ∃ i : Nat, i ≤ M ∧ v = .int .i64 i ∧ AloneAt w wr T B Z K TB P i) (fun v _ => M - (intOf v).toNat)
      case atStart => exact ⟨0, Nat.zero_le _, rfl, a0⟩
      case round =>
        clear a0
        obtain ⟨i, hi, rfl, al⟩ := hrel
        by_cases hlt2 : i < M
        · have hst := fun f => alone_step al (by rw [HLL.out.1]; exact hlt2) (by rw [HPL.out]; exact HLL.out.2) f
          rw [HLL.out.1] at hst
          clear al
          by_cases hlast : i + 1 = M
          · have e1 : ((i : Int) == (M : Int) - 1) = true := by rw [beq_iff_eq]; omega
            have e2 : decide (i + 1 = M) = true := by rw [decide_eq_true_eq]; exact hlast
            rw [e2] at hst
            go_wp2_with fail
            refine (hst _).mono ?_
            rintro e w3 ⟨rfl, al⟩
            go_wp2_with fail
            go_roundw
            case rel => exact ⟨i + 1, by omega, by go_num, al⟩
            case measure => simp [intOf]; omega
          · have e1 : ((i : Int) == (M : Int) - 1) = false := by rw [beq_eq_false_iff_ne]; omega
            have e2 : decide (i + 1 = M) = false := by rw [decide_eq_false_iff_not]; exact hlast
            rw [e2] at hst
            go_wp2_with fail
            refine (hst _).mono ?_
            rintro e w3 ⟨rfl, al⟩
            go_wp2_with fail
            go_roundw
            case rel => exact ⟨i + 1, by omega, by go_num, al⟩
            case measure => simp [intOf]; omega
        · have hiM : i = M := by omega
          subst hiM
          obtain ⟨nx, dn, a3, c3, g3, s3, hd3⟩ := alone_end al (HLL.out.1.symm)
          have hR : (P.map fun n => ((0 : Int), lk8 n)).length = k := by rw [List.length_map, HPL.out]
          have HS := Lib.hid s3
          have t3 := s3.tt
          have c5 := s3.lw.tb.cell
          rw [hR] at c5
          have st := steps_ok t3 0 (by decide)
          rw [hd3] at st
          have HST := Lib.hid st
          have hget : ∀ j, j < k → wr.cell? ⟨g3, j * 2 + 1, none⟩ = some (.int .i64 (lk8 (V j))) ∧ a3 = some ⟨g3, 0, none⟩ ∧ V j = V j := fun j hj => by
            have hx : (P.map fun n => ((0 : Int), lk8 n))[j]? = some (0, lk8 (V j)) := by rw [List.getElem?_map, HPG.out j hj]; rfl
            have h2 := HS.out.lw.own.cell (cells2_at hx).2
            exact ⟨h2, HS.out.lw.own.at_ (by rw [hR]; omega), rfl⟩
          have HG := Lib.hid hget
          clear s3 st t3 hd3 al hget
          go_wp2_with fail
          refine HST.out.mono ?_
          rintro e wr' ⟨rfl, rfl⟩
          go_wp2_with fail
          go_loopw [97] (fun v wr2 => ∃ j : Nat, j ≤ k ∧ v = .int .i64 j ∧ ∃ d, wr2 = wr.drewN d) (fun v _ => k - (intOf v).toNat)
          case atStart => exact ⟨0, Nat.zero_le _, rfl, 0, rfl⟩
          case round =>
            obtain ⟨j, hj, rfl, d, rfl⟩ := hrel
            by_cases hlt3 : j < k
            · obtain ⟨cj, rfl, -⟩ := HG.out j hlt3
              have o' := o.below HS.out.bl
              have ck := o'.cell j hlt3
              obtain rfl := o.at_ (by omega)
              have hu := u64_mod (V j)
              have hq := lk8_range (V j)
              clear o'
              generalize lk8 (V j) = q at *
              have e1 : (q != q) = false := by simp
              have hj0 : (0 : Int) ≤ (j : Int) := by omega
              have hj1 : (j : Int) < (k : Int) := by omega
              have hwq : IntKind.i64.wrap q = q := by rw [IntKind.wrap_i64]; omega
              have hwq2 : IntKind.u64.wrap q = q := by rw [IntKind.wrap_u64]; omega
              go_wp2_with fail
              go_quiet (fail)
              go_wp2_with fail
              go_roundw
              case rel => exact ⟨j + 1, by omega, by go_num, _, rfl⟩
              case measure => simp [intOf]; omega
            · have hjk : j = k := by omega
              subst hjk
              go_wp2_with fail
              refine (known_any _).mono ?_
              rintro e WF ⟨rfl, bF⟩
              go_wp2_with fail
              go_ret
              exact ⟨rfl, below_then (below_drewN HS.out.bl _) bF⟩
end Go.Proofs.Ytjobdncikpnojaa
