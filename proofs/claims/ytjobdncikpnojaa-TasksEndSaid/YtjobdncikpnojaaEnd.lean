/-
  The walk of the law TasksEnd.
-/
import Derived.Test.YtjobdncikpnojaaEndS
import Derived.Test.YtjobdncikpnojaaPlansI
namespace Go.Proofs.Ytjobdncikpnojaa
open Go.RowKit
theorem cells2_len2 (l : List (Int × Int)) : (cells2 l).length = l.length * 2 := cells2_len l
theorem mul_run0 (x y : Int) (W : World) : Sem.run Try.prog (binOp BinOp.mul 3 (.int .i64 x) (.int .i64 y)) W = .ok (.int .i64 (IntKind.i64.wrap (x * y))) W := by kernel_rfl
theorem mul_run (x y : Nat) (h : x * y ≤ 1000000) (W : World) : Sem.run Try.prog (binOp BinOp.mul 3 (.int .i64 (x : Int)) (.int .i64 (y : Int))) W = .ok (.int .i64 ((x * y : Nat) : Int)) W := by
  rw [mul_run0, ← Int.natCast_mul, show IntKind.i64.wrap ((x * y : Nat) : Int) = ((x * y : Nat) : Int) by rw [IntKind.wrap_i64]; omega]
theorem allE_snoc (i : Nat) (Q : Nat → List Int) : allE (i + 1) Q = allE i Q + 4 * (Q i).length := rfl
set_option maxRecDepth 100000 in
set_option maxHeartbeats 8000000 in
theorem end_any (a : Option Addr) (len cap b off : Nat) (A : Nat → Option Addr) (Ln Cp Bb Oo : Nat → Nat) (V : Nat → Nat → Int) (w : World) (o : PlansI w a len b off A Ln Cp Bb Oo V) (hlen : len ≤ 9223372036854775807) :
    Calls Try.prog 4 #[.slice a len cap] w fun e w' => e = .returned (.bool true) ∧ Below w.heap.size w w' := by
  by_cases hbad : len < 1 ∨ 8 < len
  · by_cases h : len < 1
    · have hl : len = 0 := by omega
      subst hl
      have d1 : decide (((0 : Nat) : Int) < (1 : Int)) = true := by decide
      go_enter Try.func4, Try.ntmps4
      go_wp2_with fail
      refine (known_any w).mono ?_
      rintro e WF ⟨rfl, bF⟩
      go_wp2_with fail
      go_ret
      exact ⟨rfl, bF⟩
    · have d1 : decide ((len : Int) < 1) = false := by simp; omega
      have d2 : decide ((8 : Int) < (len : Int)) = true := by simp; omega
      have d3 : decide (len < 1) = false := by simp; omega
      have d4 : decide (8 < len) = true := by simp; omega
      go_enter Try.func4, Try.ntmps4
      go_wp2_with fail
      refine (known_any w).mono ?_
      rintro e WF ⟨rfl, bF⟩
      go_wp2_with fail
      go_ret
      exact ⟨rfl, bF⟩
  have d1 : decide ((len : Int) < 1) = false := by simp; omega
  have d2 : decide ((8 : Int) < (len : Int)) = false := by simp; omega
  have d3 : decide (len < 1) = false := by simp; omega
  have d4 : decide (8 < len) = false := by simp; omega
  have hl8 : len ≤ 8 := by omega
  have hl0 : 0 < len := by omega
  obtain ⟨WS, hWS, sS⟩ := sw_start w len
  have hcl : clampN (len : Int) = len := by unfold clampN; rw [if_neg (by omega), if_neg (by omega)]; omega
  rw [hcl] at sS hWS
  have HWS := Lib.hid hWS
  have HCL := Lib.hid hcl
  have hs2 : (newW w len).heap.size = w.heap.size + 2 := by unfold newW; simp
  have HS2 := Lib.hid hs2
  clear hbad hWS hs2 hcl
  go_enter Try.func4, Try.ntmps4
  go_wp2_with fail
  refine (new_any len w).mono ?_
  rintro e W1 ⟨rfl, rfl⟩
  rw [HCL.out]
  go_wp2_with fail
  refine (Lk.new_any 8 _).mono ?_
  rintro e W2 ⟨rfl, rfl⟩
  rw [show Lk.clampN 8 = 8 from rfl, HS2.out]
  go_upto_region 8 with fail
  rw [HS2.out, ← HWS.out, show w.heap.size + 2 + 1 = w.heap.size + 3 from rfl]
  generalize w.heap.size + 4 = Z at *
  generalize w.heap.size + 3 = TB at *
  generalize w.heap.size + 2 = K at *
  generalize w.heap.size + 1 = T at *
  generalize hB : w.heap.size = B at sS
  clear hB HWS HS2 HCL d1 d2 d3 d4
  obtain ⟨Q, hQ⟩ : ∃ Q : Nat → List Int, Q = fun j => (List.range (Ln j)).map (V j) := ⟨_, rfl⟩
  have hQl : ∀ j, (Q j).length = Ln j := fun j => by rw [hQ]; simp
  have hQg : ∀ j k, k < Ln j → (Q j)[k]? = some (V j k) := fun j k hk => by rw [hQ]; show ((List.range (Ln j)).map (V j))[k]? = _; rw [List.getElem?_map, List.getElem?_range hk]; rfl
  have HQG := Lib.hid hQg
  have HQL := Lib.hid hQl
  clear hQ hQl hQg
  have sA : StartAt w WS T B len Z K TB Q 0 := ⟨_, sS, fun j _ => by rw [if_neg (by omega)]; rfl⟩
  have blS := sS.bl
  clear sS
  go_wp2_with fail
  go_loopw [6, 40] (fun v6 v wr => ∃ i : Nat, i ≤ len ∧ v = .int .i64 i ∧ v6 = .int .i64 (allE i Q : Nat) ∧ StartAt w wr T B len Z K TB Q i ∧ Below w.heap.size w wr ∧ ∀ j, j < i → Ln j ≤ 20) (fun _ v _ => len - (intOf v).toNat)
  case atStart => exact ⟨0, Nat.zero_le _, rfl, rfl, sA, blS, fun j hj => absurd hj (Nat.not_lt_zero j)⟩
  case round =>
    clear sA blS
    obtain ⟨i, hi, rfl, rfl, s, bl, hsm⟩ := hrel
    have HSM := Lib.hid hsm
    have hal : allE i Q ≤ 640 := by
      have := allE_le (n := i) (Q := Q) fun j hj => by rw [HQL.out]; exact hsm j hj
      omega
    clear hsm
    by_cases hlt : i < len
    · have o' := o.below bl
      have ci := o'.cell i hlt
      have oi := (o'.row i hlt).2
      have hLn := (o'.row i hlt).1
      obtain rfl := o.at_ (by omega)
      clear o'
      by_cases h20 : 20 < Ln i
      · have d1 : decide ((20 : Int) < (Ln i : Int)) = true := by simp; omega
        have d1' : decide (20 < Ln i) = true := by simp; omega
        go_wp2_with fail
        refine (known_any _).mono ?_
        rintro e WF ⟨rfl, bF⟩
        go_wp2_with fail
        go_ret
        exact ⟨rfl, below_then bl bF⟩
      · have d1 : decide ((20 : Int) < (Ln i : Int)) = false := by simp; omega
        have d1' : decide (20 < Ln i) = false := by simp; omega
        have hL20 : Ln i ≤ 20 := by omega
        clear h20
        obtain ⟨wx, rfl⟩ : ∃ wx, wx = wr := ⟨_, rfl⟩
        go_upto_region 14 with fail
        go_wp2_with fail
        go_loopw [8, 55] (fun v8 v wr => ∃ (k : Nat) (a' : Option Addr) (c' g' : Nat), k ≤ Ln i ∧ v = .int .i64 k ∧ v8 = .slice a' (4 * k) c' ∧ OwnAt wr wx.heap.size 47 2 a' (4 * k) c' g' (cells2 (actsE ((Q i).take k))) ∧ Below wx.heap.size wx wr) (fun _ v _ => Ln i - (intOf v).toNat)
        case atStart => exact ⟨0, none, 0, 0, Nat.zero_le _, rfl, rfl, ⟨World.ownsRow_nil _ _ _ _, fun h => absurd h (Nat.lt_irrefl _), fun b hb => by cases hb⟩, Below.refl _ _⟩
        case round =>
          obtain ⟨k, a', c', g', hk, rfl, rfl, oa, b2⟩ := hrel
          by_cases hkl : k < Ln i
          · have o2 := oi.below b2
            have ck := o2.cell k hkl
            have hAi := oi.at_ (by omega)
            rw [hAi]
            clear o2 hAi
            have hu := u64_mod (V i k)
            have hq := lk8_range (V i k)
            have HT := Lib.hid (show cells2 (actsE ((Q i).take (k + 1))) = cells2 (actsE ((Q i).take k)) ++ [.int .i64 1, .int .i64 (lk8 (V i k)), .int .i64 3, .int .i64 (lk8 (V i k)), .int .i64 3, .int .i64 (lk8 (V i k)), .int .i64 2, .int .i64 (lk8 (V i k))] by
              rw [List.take_add_one, HQG.out i k hkl]
              show cells2 (actsE ((Q i).take k ++ [V i k])) = _
              rw [actsE_snoc, cells2_append]
              rfl)
            generalize lk8 (V i k) = q at *
            obtain ⟨i0, hi0, hz0, hz1, hz2⟩ := info_parts info47
            have HO := Lib.hid (oa.own.alloc (.cells #[.int .i64 1, .int .i64 q, .int .i64 3, .int .i64 q, .int .i64 3, .int .i64 q, .int .i64 2, .int .i64 q] 47))
            have HR := Lib.hid (rd_new wr #[.int .i64 1, .int .i64 q, .int .i64 3, .int .i64 q, .int .i64 3, .int .i64 q, .int .i64 2, .int .i64 q] 47 2 4 rfl)
            have hZw := b2.size
            have hfin : ∀ (v1 : Value) (w1 : World), w1.ownsRow wx.heap.size 47 2 v1 (4 * k + 4) (cells2 (actsE ((Q i).take k)) ++ [.int .i64 1, .int .i64 q, .int .i64 3, .int .i64 q, .int .i64 3, .int .i64 q, .int .i64 2, .int .i64 q]) →
                (wr.alloc (.cells #[.int .i64 1, .int .i64 q, .int .i64 3, .int .i64 q, .int .i64 3, .int .i64 q, .int .i64 2, .int .i64 q] 47)).grownBy w1 (Value.slice a' (4 * k) c').ownBlock →
                ∃ a2 c2 g2, v1 = .slice a2 (4 * (k + 1)) c2 ∧ OwnAt w1 wx.heap.size 47 2 a2 (4 * (k + 1)) c2 g2 (cells2 (actsE ((Q i).take (k + 1)))) ∧ Below wx.heap.size wx w1 := by
              intro v1 w1 ho hg
              rw [← HT.out] at ho
              obtain ⟨a2, c2, g2, rfl, oa2⟩ := own_at ho
              have bA := below_new wr (.cells #[.int .i64 1, .int .i64 q, .int .i64 3, .int .i64 q, .int .i64 3, .int .i64 q, .int .i64 2, .int .i64 q] 47)
              have oaA := oa.below bA
              have := bA.size
              exact ⟨a2, c2, g2, by rw [show 4 * (k + 1) = 4 * k + 4 by omega], by rw [show 4 * (k + 1) = 4 * k + 4 by omega]; exact oa2, oaA.grown_below hg (below_then b2 bA) (by omega) (Nat.le_refl _)⟩
            have FIN := Lib.hid hfin
            clear hfin oa b2
            go_wp2_with (at_builtin; refine wpList_append_rd _ rfl (.tmp 63) (.tmp 72) 44 rfl wx.heap.size 47 i0 _ 2 16 Try.underlying44 hi0 hz0 hz1 hz2 rfl (by decide) (.slice a' (4 * k) c') (4 * k) (cells2 (actsE ((Q i).take k))) rfl HO.out (some ⟨wr.heap.size, 0, none⟩) 4 4 _ rfl HR.out (by simp [Value.oneCell']) (by unfold maxLen; omega) (by omega) (by simp; omega) ?_)
            intro v1 w1 hown1 hgrow1 hat1 hnil1
            obtain ⟨a2, c2, g2, rfl, oa2, s2⟩ := FIN.out v1 w1 hown1 hgrow1
            clear hown1 hgrow1 hat1 hnil1
            go_wp2_with fail
            go_roundw
            case rel => exact ⟨k + 1, a2, c2, g2, by omega, by go_num, rfl, oa2, s2⟩
            case measure => simp [intOf]; omega
          · have hkL : k = Ln i := by omega
            subst hkL
            rw [List.take_of_length_le (by rw [HQL.out]; exact Nat.le_refl _)] at oa
            have hL : (actsE (Q i)).length = 4 * Ln i := by rw [actsE_len, HQL.out]
            have hprog := program_any K TB (i : Int) wr (oa.acts hL) (by omega) (by rw [hL]; exact oa.le)
            rw [hL] at hprog
            have s2 := s.below b2
            have bl2 := below_then bl b2
            have hae : allE (i + 1) Q = allE i Q + 4 * Ln i := by rw [allE_snoc, HQL.out]
            have HSM2 := Lib.hid (show ∀ j, j < i + 1 → Ln j ≤ 20 from fun j hj => by
              by_cases hji : j = i
              · rw [hji]; exact hL20
              · exact HSM.out j (by omega))
            have HAE := Lib.hid hae
            have HLL := Lib.hid (And.intro hL (HQL.out i))
            have hM8 : 4 * Ln i ≤ 80 := by omega
            clear hL hae oa s bl b2 oi ci hk
            by_cases hz : Ln i = 0
            · rw [hz]
              have HZ := Lib.hid hz
              clear hz hprog hkl
              have dz : decide ((0 : Int) < ((4 * 0 : Nat) : Int)) = false := by decide
              go_wp2_with fail
              go_roundw
              case rel => exact ⟨i + 1, by omega, by go_num, by rw [HAE.out, HZ.out]; go_num, s2.skip (by rw [HLL.out.2, HZ.out]), bl2, HSM2.out⟩
              case measure => simp [intOf]; omega
            · have hpos : 0 < 4 * Ln i := by omega
              have HPOS := Lib.hid (show 0 < (Q i).length by rw [HLL.out.2]; omega)
              obtain ⟨M, hM⟩ : ∃ M, M = 4 * Ln i := ⟨_, rfl⟩
              rw [← hM] at hprog hM8 hpos HAE HLL
              rw [← hM]
              clear hM hz hkl
              have dz : decide ((0 : Int) < (M : Int)) = true := by simp; omega
              have dz' : decide (0 < M) = true := by simp; omega
              go_wp2_with fail
              refine hprog.mono ?_
              rintro e w1 ⟨v, rfl, hpb, b1⟩
              have hst := (s2.below b1).start hlt hpb HPOS.out
              have BL := Lib.hid (below_then bl2 b1)
              obtain ⟨fa, fb, fc, rfl⟩ := hpb.func (by rw [HLL.out.1]; exact hpos)
              clear hprog hpb b1 s2 bl2
              go_wp2_with fail
              refine hst.mono ?_
              rintro e w2 ⟨rfl, s3⟩
              obtain ⟨nx3, sw3, hp3⟩ := s3
              have bl3 := sw3.bl
              have s3 : StartAt w w2 T B len Z K TB Q (i + 1) := ⟨nx3, sw3, hp3⟩
              clear sw3 hp3 hst
              go_wp2_with fail
              go_roundw
              case rel => exact ⟨i + 1, by omega, by go_num, by rw [HAE.out]; go_num, s3, bl3, HSM2.out⟩
              case measure => simp [intOf]; omega
    · have hiL : i = len := by omega
      subst hiL
      have hQ20 : ∀ j, j < i → (Q j).length ≤ 20 := fun j hj => by rw [HQL.out]; exact HSM.out j hj
      have hgo := s.end_ hl8
      obtain ⟨M, hM⟩ : ∃ M, M = allE i Q := ⟨_, rfl⟩
      rw [← hM] at hal
      rw [← hM]
      have HM := Lib.hid hM
      have HQ20 := Lib.hid hQ20
      have hMi : M * i ≤ 640 * 8 := Nat.mul_le_mul hal hl8
      have hMM : M ≤ M * i := by
        have := Nat.mul_le_mul_left M hl0
        omega
      have hmul := mul_run M i (by omega)
      have hw64 : wrap64 ((M : Int) * (i : Int)) = ((M * i : Nat) : Int) := by
        rw [← Int.natCast_mul]
        unfold wrap64
        omega
      generalize M * i = Pm at *
      have HMM := Lib.hid hMM
      clear s hM hQ20 hMM bl hi hlt
      go_wp2_with fail
      go_loopw [12] (fun v wr => ∃ r : Nat, r ≤ Pm + 1 ∧ v = .int .i64 r ∧ EndAt w wr T B i Z K TB Q r 0) (fun v _ => Pm + 2 - (intOf v).toNat)
      case atStart => exact ⟨0, Nat.zero_le _, rfl, hgo⟩
      case round =>
        clear hgo
        obtain ⟨r, hr, rfl, s⟩ := hrel
        by_cases hlt3 : r ≤ Pm
        · obtain ⟨wx, rfl⟩ : ∃ wx, wx = wr := ⟨_, rfl⟩
          have dr : decide ((r : Int) ≤ (Pm : Int)) = true := by simp; omega
          have dr' : decide (r ≤ Pm) = true := by simp; omega
          go_wp2_with fail
          clear hw64 hmul dr dr'
          go_loopw [103] (fun v wr => ∃ k : Nat, k ≤ i ∧ v = .int .i64 k ∧ EndAt w wr T B i Z K TB Q r k) (fun v _ => i - (intOf v).toNat)
          case atStart => exact ⟨0, Nat.zero_le _, rfl, s⟩
          case round =>
            clear s
            obtain ⟨k, hk, rfl, s⟩ := hrel
            by_cases hki : k < i
            · obtain ⟨z, hbz, hz0, hz1⟩ := s.turn hki hl8 HQ20.out (by omega)
              have HZ0 := Lib.hid hz0
              have HZ1 := Lib.hid hz1
              clear s hz0 hz1
              go_wp2_with fail
              refine hbz.mono ?_
              rintro e w3 ⟨rfl, rfl⟩
              clear hbz
              cases z with
              | false =>
                have s4 := HZ0.out rfl
                clear HZ0 HZ1
                go_wp2_with fail
                go_roundw
                case rel => exact ⟨k + 1, by omega, by go_num, s4⟩
                case measure => simp [intOf]; omega
              | true =>
                have hrun := HZ1.out rfl
                clear HZ0 HZ1
                go_wp2_with fail
                refine hrun.mono ?_
                rintro e w4 ⟨⟨z2, rfl⟩, s4⟩
                clear hrun
                go_wp2_with fail
                go_roundw
                case rel => exact ⟨k + 1, by omega, by go_num, s4⟩
                case measure => simp [intOf]; omega
            · have hkE : k = i := by omega
              subst hkE
              have s4 := s.round
              clear s
              go_wp2_with fail
              go_roundw
              case rel => exact ⟨r + 1, by omega, by go_num, s4⟩
              case measure => simp [intOf]; omega
        · have hrM : r = Pm + 1 := by omega
          have dr : decide ((r : Int) ≤ (Pm : Int)) = false := by simp; omega
          have dr' : decide (r ≤ Pm) = false := by simp; omega
          obtain ⟨nx, dn, a3, c3, g3, h3, told, s3, hnx, hok, htl⟩ := s.over (by rw [← HM.out]; have := HMM.out; omega)
          obtain ⟨we, rfl⟩ : ∃ we, we = wr := ⟨_, rfl⟩
          rw [← HM.out] at htl
          have HS := Lib.hid s3
          have HNX := Lib.hid hnx
          have HOK := Lib.hid hok
          have HTL := Lib.hid htl
          have hT320 : told.length ≤ 320 := by omega
          clear s s3 hnx hok htl hrM hlt3 hr
          go_wp2_with fail
          clear dr dr' hw64 hmul
          obtain ⟨I, hI⟩ : ∃ I, I = we.heap.size := ⟨_, rfl⟩
          have HI := Lib.hid hI
          have b1 := below_new we (.cells #[.int .i64 0, .int .i64 0, .int .i64 0, .int .i64 0, .int .i64 0, .int .i64 0, .int .i64 0, .int .i64 0] 50)
          have r1 : (we.alloc (.cells #[.int .i64 0, .int .i64 0, .int .i64 0, .int .i64 0, .int .i64 0, .int .i64 0, .int .i64 0, .int .i64 0] 50)).rowIs I 50 8 (fun _ => .int .i64 0) := by
            rw [hI]
            refine ⟨_, World.alloc_heap_new we _, rfl, fun j hj => ?_⟩
            rcases (show j = 0 ∨ j = 1 ∨ j = 2 ∨ j = 3 ∨ j = 4 ∨ j = 5 ∨ j = 6 ∨ j = 7 by omega) with h | h | h | h | h | h | h | h <;> subst h <;> rfl
          rw [← hI]
          clear hI
          generalize we.alloc (.cells #[.int .i64 0, .int .i64 0, .int .i64 0, .int .i64 0, .int .i64 0, .int .i64 0, .int .i64 0, .int .i64 0] 50) = wi at *
          go_loopw [113] (fun v wr => ∃ k : Nat, k ≤ 8 ∧ v = .int .i64 k ∧ Below we.heap.size we wr ∧ wr.rowIs I 50 8 (fun j => if j < k then .int .i64 (-1) else .int .i64 0)) (fun v _ => 8 - (intOf v).toNat)
          case atStart => exact ⟨0, Nat.zero_le _, rfl, b1, r1.congr fun j _ => by rw [if_neg (by omega)]⟩
          case round =>
            clear b1 r1
            obtain ⟨k, hk, rfl, bl, row⟩ := hrel
            by_cases hk8 : k < 8
            · have ck := row.cell (i := k) hk8
              have fk := row.frozen k
              have bl2 := below_only bl (only_set (only_refl wr I) k (.int .i64 (-1))) (by rw [HI.out]; exact Nat.le_refl _)
              have r2 := (row.set k (.int .i64 (-1))).congr (g := fun j => if j < k + 1 then .int .i64 (-1) else .int .i64 0) (fun j hj => by
                by_cases hjk : j = k
                · subst hjk; simp
                · by_cases h1 : j < k
                  · simp [hjk, h1, show j < k + 1 by omega]
                  · simp [hjk, h1, show ¬ j < k + 1 by omega])
              clear bl row
              go_wp2_with fail
              go_roundw
              case rel => exact ⟨k + 1, by omega, by go_num, bl2, r2⟩
              case measure => simp [intOf]; omega
            · have hk9 : k = 8 := by omega
              have r2 := row.congr (g := fun l => .int .i64 (insF (told.take 0) l)) (fun l hl => by rw [if_pos (by omega)]; rfl)
              have s4 := HS.out.below bl
              have c5 := s4.lw.tb.cell
              clear row hk9
              go_wp2_with fail
              clear c5 s4 hk8 hk
              go_loopw [121] (fun v wr => ∃ j : Nat, j ≤ told.length ∧ v = .int .i64 j ∧ Below we.heap.size we wr ∧ wr.rowIs I 50 8 (fun l => .int .i64 (insF (told.take j) l))) (fun v _ => told.length - (intOf v).toNat)
              case atStart => exact ⟨0, Nat.zero_le _, rfl, bl, r2⟩
              case round =>
                clear bl r2
                obtain ⟨j, hj, rfl, bl, row⟩ := hrel
                by_cases hjt : j < told.length
                · obtain ⟨x, hx⟩ : ∃ x, told[j]? = some x := ⟨_, List.getElem?_eq_getElem hjt⟩
                  obtain ⟨hat, hr0, hr1, hr2, hr3⟩ := HOK.out j x hx
                  obtain ⟨x0, x1⟩ := x
                  simp only at hat hr0 hr1 hr2 hr3
                  obtain ⟨l, rfl⟩ : ∃ l : Nat, x1 = (l : Int) := ⟨x1.toNat, by omega⟩
                  have hl8' : l < 8 := by omega
                  have sB := HS.out.below bl
                  have e0 := sB.lw.own.cell (cells2_at hx).1
                  have e1 := sB.lw.own.cell (cells2_at hx).2
                  have ha3 := sB.lw.own.at_ (by omega)
                  simp only at e0 e1
                  obtain rfl := ha3
                  have ci := row.cell (i := l) hl8'
                  have fi := row.frozen l
                  clear sB
                  have hstep : ∀ v, (insF (told.take j) l < 0 → v = x0) → (0 ≤ insF (told.take j) l → v = -1) → ∀ m, m < 8 → (if m = l then Value.int .i64 v else .int .i64 (insF (told.take j) m)) = .int .i64 (insF (told.take (j + 1)) m) := by
                    intro v h1 h2 m hm
                    rw [List.take_add_one, hx]
                    show _ = Value.int .i64 (insF (told.take j ++ [(x0, (l : Int))]) m)
                    rw [insF_snoc]
                    unfold insStep Lk.upd
                    simp only [Int.toNat_natCast]
                    by_cases hml : m = l
                    · subst hml
                      rw [if_pos rfl, if_pos rfl]
                      by_cases h0 : insF (told.take j) m < 0
                      · rw [if_pos h0, h1 h0]
                      · rw [if_neg h0, h2 (by omega)]
                    · rw [if_neg hml, if_neg hml]
                  have hat' : insF (told.take j) l < 0 ∨ insF (told.take j) l = x0 := hat
                  have HSTEP := Lib.hid hstep
                  clear hat hstep
                  generalize hq : insF (told.take j) l = q at *
                  obtain ⟨P, hP⟩ : ∃ P, P = wr.heap.size := ⟨_, rfl⟩
                  have bX := below_new wr (.cells #[.int .i64 x0, .int .i64 (l : Int)] 51)
                  have xr : (wr.alloc (.cells #[.int .i64 x0, .int .i64 (l : Int)] 51)).heap[P]? = some (.cells #[.int .i64 x0, .int .i64 (l : Int)] 51 (0, 0)) := by rw [hP]; exact World.alloc_heap_new wr _
                  have hPw := Lib.hid hP
                  have rowX := rowIs_below row bX
                  have BLX := Lib.hid (below_then bl bX)
                  have hIP : I ≠ P := by have := row.lt; omega
                  have hPI := Lib.hid hIP
                  clear row ci fi bl
                  go_upto_region 43 with fail
                  rw [← hP]
                  clear hP e0 e1
                  generalize wr.alloc (.cells #[.int .i64 x0, .int .i64 (l : Int)] 51) = wx at *
                  have y0 : wx.cell? ⟨P, 0, none⟩ = some (.int .i64 x0) := by unfold World.cell?; rw [xr]; rfl
                  have y1 : wx.cell? ⟨P, 1, none⟩ = some (.int .i64 l) := by unfold World.cell?; rw [xr]; rfl
                  have ci := rowX.cell (i := l) hl8'
                  simp only [hq] at ci
                  have fi := rowX.frozen l
                  have ROW := Lib.hid rowX
                  clear rowX xr
                  by_cases hq0 : q < 0
                  · have dq : decide (q ≥ 0) = false := by simp; omega
                    have dq1 : decide (0 ≤ q) = false := by simp; omega
                    have dq2 : decide (q < 0) = true := by simp; omega
                    go_quiet (fail)
                    go_wp2_with fail
                    go_roundw
                    case rel =>
                      have bl2 := fun n => below_only (below_drewN BLX.out n) (only_set (only_refl (wx.drewN n) I) l (.int .i64 x0)) (by rw [HI.out]; exact Nat.le_refl _)
                      exact ⟨j + 1, by omega, by go_num, bl2 _, (rowIs_drewN ROW.out _).set l (.int .i64 x0) |>.congr fun m hm => HSTEP.out x0 (fun _ => rfl) (fun h => absurd h (by omega)) m hm⟩
                    case measure => simp [intOf]; omega
                  · have dq : decide (q ≥ 0) = true := by simp; omega
                    have dq1 : decide (0 ≤ q) = true := by simp; omega
                    have dq2 : decide (q < 0) = false := by simp; omega
                    have hqx : q = x0 := by rcases hat' with h | h; exact absurd h hq0; exact h
                    have nqx : (q != x0) = false := by rw [hqx]; simp
                    clear hqx hat'
                    go_quiet (fail)
                    go_wp2_with fail
                    go_roundw
                    case rel =>
                      have bl2 := fun n => below_only (below_drewN BLX.out n) (only_set (only_refl (wx.drewN n) I) l (.int .i64 (-1))) (by rw [HI.out]; exact Nat.le_refl _)
                      exact ⟨j + 1, by omega, by go_num, bl2 _, (rowIs_drewN ROW.out _).set l (.int .i64 (-1)) |>.congr fun m hm => HSTEP.out (-1) (fun h => absurd h (by omega)) (fun _ => rfl) m hm⟩
                    case measure => simp [intOf]; omega
                · have hjT : j = told.length := by omega
                  subst hjT
                  clear row hjt hj
                  have c5 := (HS.out.below bl).lw.tb.cell
                  go_wp2_with fail
                  clear c5
                  go_loopw [155] (fun v wr => ∃ k : Nat, k ≤ i ∧ v = .int .i64 k ∧ Below we.heap.size we wr) (fun v _ => i - (intOf v).toNat)
                  case atStart => exact ⟨0, Nat.zero_le _, rfl, bl⟩
                  case round =>
                    clear bl
                    obtain ⟨k, hk2, rfl, bl⟩ := hrel
                    by_cases hki : k < i
                    · have hb := busy_ok (HS.out.below bl).tt k hki (z := true) (by rw [HNX.out k hki]; exact .nil)
                      simp only [Bool.not_true] at hb
                      go_wp2_with fail
                      refine hb.mono ?_
                      rintro e w9 ⟨rfl, rfl⟩
                      clear hb
                      go_wp2_with fail
                      go_roundw
                      case rel => exact ⟨k + 1, by omega, by go_num, bl⟩
                      case measure => simp [intOf]; omega
                    · have hkI : k = i := by omega
                      have c5 := (HS.out.below bl).lw.tb.cell
                      have htl := HTL.out
                      have hquo : (M : Int).tdiv 2 = ((M / 2 : Nat) : Int) := by rw [Int.tdiv_eq_ediv_of_nonneg (by omega)]; rfl
                      have BL := Lib.hid (HS.out.below bl).bl
                      have e1 : ((told.length : Int) == (M : Int) / 2) = true := by rw [htl]; simp
                      have e2 : ((told.length : Int)) = (M : Int) / 2 := by rw [htl]; simp
                      clear bl htl
                      go_wp2_with fail
                      refine (known_any _).mono ?_
                      rintro e WF ⟨rfl, bF⟩
                      go_wp2_with fail
                      go_ret
                      exact ⟨rfl, below_then BL.out bF⟩
end Go.Proofs.Ytjobdncikpnojaa
