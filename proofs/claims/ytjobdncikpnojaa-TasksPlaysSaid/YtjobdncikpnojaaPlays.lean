/-
  The walk of the law TasksPlays (printed by gen_tplays.py).
-/
import Derived.Test.YtjobdncikpnojaaPlaysS
import Derived.Deep.RegionHeld3
import Derived.Deep.CutRange
import Derived.Deep.CutBlock
namespace Go.Proofs.Ytjobdncikpnojaa
open Go.RowKit
theorem box59 {w : World} {Q : Nat} {x y z : Value} (h : w.heap[Q]? = some (.cells #[x, y, z] 59 (0, 0))) : w.cell? ⟨Q, 0, none⟩ = some x ∧ w.cell? ⟨Q, 1, none⟩ = some y ∧ w.cell? ⟨Q, 2, none⟩ = some z := by
  unfold World.cell?
  rw [h]
  exact ⟨rfl, rfl, rfl⟩
theorem box_set {w : World} {Q : Nat} {cs : Array Value} {t : TypeId} (h : w.heap[Q]? = some (.cells cs t (0, 0))) {d : Nat} (hne : Q ≠ d) (o : Nat) (v : Value) : (w.setCell ⟨d, o, none⟩ v).heap[Q]? = some (.cells cs t (0, 0)) := (Below.heap_setCell w ⟨d, o, none⟩ v Q hne).trans h
set_option maxRecDepth 100000 in
set_option maxHeartbeats 16000000 in
theorem plays_any (cpus : Int) (a : Option Addr) (len cap b off : Nat) (f : Nat → Op1) (w : World) (o : OpsT w a len b off f) (hlen : len ≤ 9223372036854775807) :
    Calls Try.prog 6 #[.int .i64 cpus, .slice a len cap] w fun e w' => e = .returned (.bool true) ∧ Below w.heap.size w w' := by
  by_cases hlo : cpus < 1
  · have d1 : decide (cpus < 1) = true := by simp; exact hlo
    go_enter Try.func6, Try.ntmps6
    go_wp2_with fail
    refine (known_any _).mono ?_
    rintro e WF ⟨rfl, bF⟩
    go_wp2_with fail
    go_ret
    exact ⟨rfl, bF⟩
  have d1 : decide (cpus < 1) = false := by simp; omega
  by_cases hhi : 16 < cpus
  · have d2 : decide (16 < cpus) = true := by simp; exact hhi
    go_enter Try.func6, Try.ntmps6
    go_wp2_with fail
    refine (known_any _).mono ?_
    rintro e WF ⟨rfl, bF⟩
    go_wp2_with fail
    go_ret
    exact ⟨rfl, bF⟩
  have d2 : decide (16 < cpus) = false := by simp; omega
  obtain ⟨n, rfl⟩ : ∃ n : Nat, cpus = (n : Int) := ⟨cpus.toNat, by omega⟩
  have hn : 0 < n ∧ n ≤ 16 := by omega
  have hcl : clampN (n : Int) = n := by unfold clampN; rw [if_neg (by omega), if_neg (by omega)]; omega
  have HCL := Lib.hid hcl
  have HN := Lib.hid hn
  clear hlo hhi hcl hn
  go_enter Try.func6, Try.ntmps6
  go_wp2_with fail
  refine (tame_any o hlen).mono ?_
  rintro e w1 ⟨z, rfl, b1, hz⟩
  cases z with
  | false =>
    clear hz
    go_wp2_with fail
    refine (known_any _).mono ?_
    rintro e WF ⟨rfl, bF⟩
    go_wp2_with fail
    go_ret
    exact ⟨rfl, below_then b1 bF⟩
  | true =>
    obtain ⟨h400, htm⟩ := hz rfl
    have HT := Lib.hid htm
    have O1 := Lib.hid (o.below b1)
    have B1 := Lib.hid b1
    clear hz htm o b1
    go_wp2_with fail
    refine (new_any (n : Int) w1).mono ?_
    rintro e w2 ⟨rfl, rfl⟩
    rw [HCL.out]
    go_wp2_with fail
    refine (refnew_any n HN.out.2 _).mono ?_
    rintro e w2 ⟨hd, an, ln, cp, gb, rfl, ns, hln, hhd⟩
    have s0 := ps_start HN.out ns hln hhd
    clear ns hln hhd
    go_wp2_with fail
    refine (Lk.new_any 8 _).mono ?_
    rintro e w3 ⟨rfl, rfl⟩
    rw [show Lk.clampN 8 = 8 from rfl]
    go_upto_region 8 with fail
    have hTB : (w2.alloc (.cells (Lk.newCells 8) 71)).heap.size = w2.heap.size + 1 := size1 _ _
    generalize (w2.alloc (.cells (Lk.newCells 8) 71)).alloc (.cells #[.slice none 0 0] 42) = w4 at *
    generalize w2.heap.size + 2 = Z at *
    generalize w2.heap.size + 1 = TB at *
    generalize w2.heap.size = K at *
    generalize (newW w1 n).heap.size = R at *
    generalize w1.heap.size + 1 = T at *
    generalize hB : w1.heap.size = B at s0
    clear hB hTB HCL d1 d2
    have X0 := Lib.hid (s0.px (Nat.le_refl 0))
    clear s0
    obtain ⟨w0, hw0⟩ : ∃ w0, w0 = w1 := ⟨_, rfl⟩
    rw [← hw0] at X0 O1 B1
    clear hw0
    go_wp2_with fail
    go_loopw [42] (fun v wr => ∃ i : Nat, i ≤ len ∧ v = .int .i64 i ∧ PX w0 wr T B n Z K TB R gb cp i) (fun v _ => len - (intOf v).toNat)
    case atStart => exact ⟨0, Nat.zero_le _, rfl, X0.out⟩
    case round =>
      clear X0
      obtain ⟨i, hi, rfl, nx, dn, h, a', c', g', told, pr, pc, on, aT, cT, gT, s⟩ := hrel
      by_cases hlt : i < len
      · obtain rfl := O1.out.at_ (by omega)
        have oi := (O1.out.below s.sw.bl).one i hlt
        have hac0 := (O1.out.one i hlt).acts
        have htm := HT.out i hlt
        obtain ⟨p, hp⟩ : ∃ p, p = f i := ⟨_, rfl⟩
        rw [← hp] at oi hac0 htm
        clear hp
        obtain ⟨kd, cu, pa, pcap, L⟩ := p
        obtain ⟨c0, c1, c2, hle, hac, hcu⟩ := oi
        simp only at c0 c1 c2 hle hac hcu hac0 htm
        obtain ⟨m, hm⟩ : ∃ m, m = L.length := ⟨_, rfl⟩
        rw [← hm] at c2 hle
        have hm30 : m ≤ 30 := by rw [hm]; exact htm.1
        have HM := Lib.hid hm
        clear hm hac
        have xr := World.alloc_heap_new wr (.cells #[.int .i64 kd, .int .i64 cu, .slice pa m pcap] 59)
        have s1 := s.below (below_new wr (.cells #[.int .i64 kd, .int .i64 cu, .slice pa m pcap] 59))
        go_upto_region 12 with fail
        clear c0 c1 c2 s
        generalize wr.alloc (.cells #[.int .i64 kd, .int .i64 cu, .slice pa m pcap] 59) = W1 at *
        generalize wr.heap.size = Q at *
        have HN2 := HN.out
        by_cases hin : 0 ≤ cu ∧ cu < (n : Int)
        · obtain ⟨k, rfl⟩ := Int.eq_ofNat_of_zero_le hin.1
          have hk : k < n := by omega
          have hk0 : (0 : Int) ≤ (k : Int) := by omega
          have hk1 : (k : Int) < (n : Int) := by omega
          clear hin
          have y0 := (box59 xr).1
          have y1 := (box59 xr).2.1
          have d1 : decide ((k : Int) ≥ 0) = true := by simp
          have d2 : decide ((k : Int) < (n : Int)) = true := by simp; exact hk
          have d3 : decide (k < n) = true := by simp; exact hk
          go_upto_block 2 with fail
          go_cut [] from 58 to 160 (fun wx => PX w0 wx T B n Z K TB R gb cp (i + 1) ∧ wx.heap[Q]? = some (.cells #[.int .i64 kd, .int .i64 (k : Int), .slice pa m pcap] 59 (0, 0)))
          case first =>
            rcases Decidable.em (kd = 1) with hd1 | hd1
            · have e1 : (kd == 1) = true := by rw [hd1]; rfl
              clear hd1
              by_cases hm0 : m = 0
              · have y2 := (box59 xr).2.2
                have hL0 : L = [] := List.eq_nil_of_length_eq_zero (by rw [← HM.out]; exact hm0)
                have hm1 : ((m : Int) == 0) = true := by rw [hm0]; rfl
                have HL0 := Lib.hid hL0
                clear hm0 hL0
                go_upto_region 21 with fail
                have xd : W1.drew.heap[Q]? = some (.cells #[.int .i64 kd, .int .i64 (k : Int), .slice pa m pcap] 59 (0, 0)) := xr
                have sd := s1.below (Below.refl W1.heap.size W1).drew
                have y1 : W1.cell? ⟨Q, 1, none⟩ = some (.int .i64 (k : Int)) := (box59 xr).2.1
                have y2 : W1.cell? ⟨Q, 2, none⟩ = some (.slice pa m pcap) := (box59 xr).2.2
                have hprog := program_x Z K TB (k : Int) W1.drew sd.sw.zw (hac0.below sd.sw.bl) (by have := htm.1; omega) (by rw [← HM.out]; exact hle)
                rw [← HM.out] at hprog
                go_region_held3 (fun w' => w'.cell? ⟨Q, 1, none⟩ = some (.int .i64 (k : Int)) ∧ w'.cell? ⟨Q, 2, none⟩ = some (.slice pa m pcap))
                  (first | exact ⟨(box59 x3).2.1, (box59 x3).2.2⟩ | exact ⟨(box59 x2).2.1, (box59 x2).2.2⟩ | go_keep)
                  (first
                    | (go_at_call 16; refine hprog.mono ?_; rintro e W2 ⟨v, rfl, hp, b2⟩; have x2 := keep59_below b2 _ _ xd; rw [HL0.out] at hp; obtain rfl : v = .nilFunc := hp; have sd2 := sd.below b2)
                    | (go_at_call 9; refine (start_nil sd2.sw.tt k hk).mono ?_; rintro e W3 ⟨rfl, rfl⟩; have x3 := x2; have px9 := sd2.px (Nat.le_refl i)))
                clear y1 y2 sd sd2 hprog xd x2 s1
                obtain ⟨w9, rfl⟩ : ∃ w9, w9 = W2 := ⟨_, rfl⟩
                have x9 := x3
                clear x3
                have PX9 := Lib.hid px9
                have XX9 := Lib.hid x9
                clear px9 x9
                go_wp2_with fail
                go_meet
                exact ⟨PX9.out.le (Nat.le_succ i), XX9.out⟩
              · have hm1 : ((m : Int) == 0) = false := by rw [beq_eq_false_iff_ne]; omega
                have y2 := (box59 xr).2.2
                go_upto_region 19 with fail
                clear y2 y1 y0 d1 d2 d3
                obtain ⟨z, hz⟩ : ∃ z, on k = z := ⟨_, rfl⟩
                cases z with
                | true =>
                  have y1 := (box59 xr).2.1
                  have cR2 : W1.cell? ⟨R, 2, none⟩ = some (.slice (some ⟨gb 2, 0, none⟩) n (cp 2)) := s1.rw.row.cell (i := 2) (by decide)
                  have cO := s1.rw.aO.cell hk
                  simp only [hz] at cO
                  go_upto_region 19 with fail
                  go_quiet (fail)
                  clear y1 cR2 cO
                  have xr := (show (W1.drewN nq).heap[Q]? = some (.cells #[.int .i64 kd, .int .i64 (k : Int), .slice pa m pcap] 59 (0, 0)) from xr)
                  have s1 := s1.drewN nq
                  generalize W1.drewN nq = W1 at *
                  go_upto_region 21 with fail
                  obtain ⟨ua, ub, uc, hfn⟩ := s1.fn hk hz
                  have xd : W1.drew.heap[Q]? = some (.cells #[.int .i64 kd, .int .i64 (k : Int), .slice pa m pcap] 59 (0, 0)) := xr
                  have sd := s1.below (Below.refl W1.heap.size W1).drew
                  have y1 : W1.cell? ⟨Q, 1, none⟩ = some (.int .i64 (k : Int)) := (box59 xr).2.1
                  have y2 : W1.cell? ⟨Q, 2, none⟩ = some (.slice pa m pcap) := (box59 xr).2.2
                  have hprog := program_x Z K TB (k : Int) W1.drew sd.sw.zw (hac0.below sd.sw.bl) (by have := htm.1; omega) (by rw [← HM.out]; exact hle)
                  rw [← HM.out] at hprog
                  go_region_held3 (fun w' => w'.cell? ⟨Q, 1, none⟩ = some (.int .i64 (k : Int)) ∧ w'.cell? ⟨Q, 2, none⟩ = some (.slice pa m pcap))
                    (first | exact ⟨(box59 x3).2.1, (box59 x3).2.2⟩ | exact ⟨(box59 x2).2.1, (box59 x2).2.2⟩ | go_keep)
                    (first
                      | (go_at_call 16; refine hprog.mono ?_; rintro e W2 ⟨v, rfl, hp, b2⟩; have x2 := keep59_below b2 _ _ xd; obtain ⟨fa, fb, fc, rfl⟩ := hp.func (by rw [← HM.out]; omega); have sd2 := sd.below b2)
                      | (go_at_call 9; refine (start_busy sd2.sw.tt k hk fa fb fc hfn).mono ?_; rintro e W3 ⟨rfl, rfl⟩; have x3 := x2; have px9 := sd2.px (Nat.le_refl i)))
                  clear y1 y2 sd sd2 hprog xd x2 s1 hfn hz
                  obtain ⟨w9, rfl⟩ : ∃ w9, w9 = W2 := ⟨_, rfl⟩
                  have x9 := x3
                  clear x3
                  have PX9 := Lib.hid px9
                  have XX9 := Lib.hid x9
                  clear px9 x9
                  go_wp2_with fail
                  go_meet
                  exact ⟨PX9.out.le (Nat.le_succ i), XX9.out⟩
                | false =>
                  have y1 := (box59 xr).2.1
                  have cR2 : W1.cell? ⟨R, 2, none⟩ = some (.slice (some ⟨gb 2, 0, none⟩) n (cp 2)) := s1.rw.row.cell (i := 2) (by decide)
                  have cO := s1.rw.aO.cell hk
                  simp only [hz] at cO
                  go_upto_region 19 with fail
                  go_quiet (fail)
                  clear y1 cR2 cO
                  have xr := (show (W1.drewN nq).heap[Q]? = some (.cells #[.int .i64 kd, .int .i64 (k : Int), .slice pa m pcap] 59 (0, 0)) from xr)
                  have s1 := s1.drewN nq
                  generalize W1.drewN nq = W1 at *
                  go_upto_region 16 with fail
                  have hidle := s1.idle hk hz
                  have hpos : 0 < m := by omega
                  obtain ⟨hne1, hne2, hne3, hne4, hne5⟩ := s1.rw.apart
                  have r1 := s1.rw.setO k true
                  have r2 := r1.setP k (.slice pa m pcap)
                  have r3 := r2.setA k 0
                  have kl3 := ((keepL_set W1 (S := [gb 0, gb 1, gb 2]) (gb 2) k (.bool true) (by simp)).trans (keepL_set _ (S := [gb 0, gb 1, gb 2]) (gb 0) k (.slice pa m pcap) (by simp))).trans (keepL_set _ (S := [gb 0, gb 1, gb 2]) (gb 1) k (.int .i64 0) (by simp))
                  have cR0 : W1.cell? ⟨R, 0, none⟩ = some (.slice (some ⟨gb 0, 0, none⟩) n (cp 0)) := s1.rw.row.cell (i := 0) (by decide)
                  have cR1 : W1.cell? ⟨R, 1, none⟩ = some (.slice (some ⟨gb 1, 0, none⟩) n (cp 1)) := s1.rw.row.cell (i := 1) (by decide)
                  have cR2 : W1.cell? ⟨R, 2, none⟩ = some (.slice (some ⟨gb 2, 0, none⟩) n (cp 2)) := s1.rw.row.cell (i := 2) (by decide)
                  have cO := s1.rw.aO.cell hk
                  have cA := s1.rw.aA.cell hk
                  have cP := s1.rw.aP.cell hk
                  have fO := s1.rw.aO.frozen k
                  have fA := s1.rw.aA.frozen k
                  have fP := s1.rw.aP.frozen k
                  have y1 : W1.cell? ⟨Q, 1, none⟩ = some (.int .i64 (k : Int)) := (box59 xr).2.1
                  have y2 : W1.cell? ⟨Q, 2, none⟩ = some (.slice pa m pcap) := (box59 xr).2.2
                  have nQ0 : Q ≠ gb 0 := ne_typ ⟨_, xr⟩ s1.rw.aP.typ (by decide)
                  have nQ1 : Q ≠ gb 1 := ne_typ ⟨_, xr⟩ s1.rw.aA.typ (by decide)
                  have nQ2 : Q ≠ gb 2 := ne_typ ⟨_, xr⟩ s1.rw.aO.typ (by decide)
                  have q1 := box_set xr nQ2 k (.bool true)
                  have q2 := box_set q1 nQ0 k (.slice pa m pcap)
                  have q3 := box_set q2 nQ1 k (.int .i64 0)
                  have t1 : (W1.setCell ⟨gb 2, k, none⟩ (.bool true)).drew.cell? ⟨Q, 1, none⟩ = some (.int .i64 (k : Int)) ∧ (W1.setCell ⟨gb 2, k, none⟩ (.bool true)).drew.cell? ⟨Q, 2, none⟩ = some (.slice pa m pcap) ∧ (W1.setCell ⟨gb 2, k, none⟩ (.bool true)).drew.cell? ⟨R, 0, none⟩ = some (.slice (some ⟨gb 0, 0, none⟩) n (cp 0)) ∧ (W1.setCell ⟨gb 2, k, none⟩ (.bool true)).drew.cell? ⟨R, 1, none⟩ = some (.slice (some ⟨gb 1, 0, none⟩) n (cp 1)) ∧ (W1.setCell ⟨gb 2, k, none⟩ (.bool true)).drew.cell? ⟨R, 2, none⟩ = some (.slice (some ⟨gb 2, 0, none⟩) n (cp 2)) :=
                    ⟨(box59 q1).2.1, (box59 q1).2.2, r1.row.cell (i := 0) (by decide), r1.row.cell (i := 1) (by decide), r1.row.cell (i := 2) (by decide)⟩
                  have T1 := Lib.hid t1
                  have t2 : ((W1.setCell ⟨gb 2, k, none⟩ (.bool true)).setCell ⟨gb 0, k, none⟩ (.slice pa m pcap)).drew.cell? ⟨Q, 1, none⟩ = some (.int .i64 (k : Int)) ∧ ((W1.setCell ⟨gb 2, k, none⟩ (.bool true)).setCell ⟨gb 0, k, none⟩ (.slice pa m pcap)).drew.cell? ⟨Q, 2, none⟩ = some (.slice pa m pcap) ∧ ((W1.setCell ⟨gb 2, k, none⟩ (.bool true)).setCell ⟨gb 0, k, none⟩ (.slice pa m pcap)).drew.cell? ⟨R, 0, none⟩ = some (.slice (some ⟨gb 0, 0, none⟩) n (cp 0)) ∧ ((W1.setCell ⟨gb 2, k, none⟩ (.bool true)).setCell ⟨gb 0, k, none⟩ (.slice pa m pcap)).drew.cell? ⟨R, 1, none⟩ = some (.slice (some ⟨gb 1, 0, none⟩) n (cp 1)) ∧ ((W1.setCell ⟨gb 2, k, none⟩ (.bool true)).setCell ⟨gb 0, k, none⟩ (.slice pa m pcap)).drew.cell? ⟨R, 2, none⟩ = some (.slice (some ⟨gb 2, 0, none⟩) n (cp 2)) :=
                    ⟨(box59 q2).2.1, (box59 q2).2.2, r2.row.cell (i := 0) (by decide), r2.row.cell (i := 1) (by decide), r2.row.cell (i := 2) (by decide)⟩
                  have T2 := Lib.hid t2
                  have t3 : (((W1.setCell ⟨gb 2, k, none⟩ (.bool true)).setCell ⟨gb 0, k, none⟩ (.slice pa m pcap)).setCell ⟨gb 1, k, none⟩ (.int .i64 0)).drew.cell? ⟨Q, 1, none⟩ = some (.int .i64 (k : Int)) ∧ (((W1.setCell ⟨gb 2, k, none⟩ (.bool true)).setCell ⟨gb 0, k, none⟩ (.slice pa m pcap)).setCell ⟨gb 1, k, none⟩ (.int .i64 0)).drew.cell? ⟨Q, 2, none⟩ = some (.slice pa m pcap) ∧ (((W1.setCell ⟨gb 2, k, none⟩ (.bool true)).setCell ⟨gb 0, k, none⟩ (.slice pa m pcap)).setCell ⟨gb 1, k, none⟩ (.int .i64 0)).drew.cell? ⟨R, 0, none⟩ = some (.slice (some ⟨gb 0, 0, none⟩) n (cp 0)) ∧ (((W1.setCell ⟨gb 2, k, none⟩ (.bool true)).setCell ⟨gb 0, k, none⟩ (.slice pa m pcap)).setCell ⟨gb 1, k, none⟩ (.int .i64 0)).drew.cell? ⟨R, 1, none⟩ = some (.slice (some ⟨gb 1, 0, none⟩) n (cp 1)) ∧ (((W1.setCell ⟨gb 2, k, none⟩ (.bool true)).setCell ⟨gb 0, k, none⟩ (.slice pa m pcap)).setCell ⟨gb 1, k, none⟩ (.int .i64 0)).drew.cell? ⟨R, 2, none⟩ = some (.slice (some ⟨gb 2, 0, none⟩) n (cp 2)) :=
                    ⟨(box59 q3).2.1, (box59 q3).2.2, r3.row.cell (i := 0) (by decide), r3.row.cell (i := 1) (by decide), r3.row.cell (i := 2) (by decide)⟩
                  have T3 := Lib.hid t3
                  have zP : (W1.setCell ⟨gb 2, k, none⟩ (.bool true)).drew.cell? ⟨gb 0, k, none⟩ = _ := r1.aP.cell hk
                  have zfP : (W1.setCell ⟨gb 2, k, none⟩ (.bool true)).drew.frozen? ⟨gb 0, k, none⟩ = false := r1.aP.frozen k
                  have uA : ((W1.setCell ⟨gb 2, k, none⟩ (.bool true)).setCell ⟨gb 0, k, none⟩ (.slice pa m pcap)).drew.cell? ⟨gb 1, k, none⟩ = _ := r2.aA.cell hk
                  have ufA : ((W1.setCell ⟨gb 2, k, none⟩ (.bool true)).setCell ⟨gb 0, k, none⟩ (.slice pa m pcap)).drew.frozen? ⟨gb 1, k, none⟩ = false := r2.aA.frozen k
                  have S1 := Lib.hid s1
                  have R3 := Lib.hid r3
                  have KL3 := Lib.hid kl3
                  have XR := Lib.hid xr
                  clear s1 r1 r2 r3 kl3 xr q1 q2 q3 t1 t2 t3 nQ0 nQ1 nQ2 hne1 hne2 hne3 hne4 hne5
                  go_region_held3 (fun w' => w'.cell? ⟨Q, 1, none⟩ = some (.int .i64 (k : Int)) ∧ w'.cell? ⟨Q, 2, none⟩ = some (.slice pa m pcap) ∧ w'.cell? ⟨R, 0, none⟩ = some (.slice (some ⟨gb 0, 0, none⟩) n (cp 0)) ∧ w'.cell? ⟨R, 1, none⟩ = some (.slice (some ⟨gb 1, 0, none⟩) n (cp 1)) ∧ w'.cell? ⟨R, 2, none⟩ = some (.slice (some ⟨gb 2, 0, none⟩) n (cp 2)))
                    (first | exact T1.out | exact T2.out | exact T3.out | go_keep) (fail)
                  clear cR0 cR1 cR2 cO cA cP fO fA fP y1 y2 zP zfP uA ufA T1 T2 T3 hz
                  obtain ⟨ps, k5⟩ := S1.out.begun (k := k) (KL3.out.trans (keepL_below (Below.refl _ _).drew _)) (R3.out.below (Below.refl _ _).drew) (fun j hj => by unfold upV upI upB; rw [if_neg hj, if_neg hj, if_neg hj]; exact ⟨rfl, rfl, rfl⟩)
                  have xq := k5 _ _ XR.out
                  clear S1 R3 KL3 XR k5 xr
                  generalize (((W1.setCell ⟨gb 2, k, none⟩ (.bool true)).setCell ⟨gb 0, k, none⟩ (.slice pa m pcap)).setCell ⟨gb 1, k, none⟩ (.int .i64 0)).drew = W1 at *
                  have xr := xq
                  have s1 := ps
                  clear xq ps
                  go_upto_region 21 with fail
                  have xd : W1.drew.heap[Q]? = some (.cells #[.int .i64 kd, .int .i64 (k : Int), .slice pa m pcap] 59 (0, 0)) := xr
                  have sd := s1.below (Below.refl W1.heap.size W1).drew
                  have y1 : W1.cell? ⟨Q, 1, none⟩ = some (.int .i64 (k : Int)) := (box59 xr).2.1
                  have y2 : W1.cell? ⟨Q, 2, none⟩ = some (.slice pa m pcap) := (box59 xr).2.2
                  have hprog := program_x Z K TB (k : Int) W1.drew sd.sw.zw (hac0.below sd.sw.bl) (by have := htm.1; omega) (by rw [← HM.out]; exact hle)
                  rw [← HM.out] at hprog
                  go_region_held3 (fun w' => w'.cell? ⟨Q, 1, none⟩ = some (.int .i64 (k : Int)) ∧ w'.cell? ⟨Q, 2, none⟩ = some (.slice pa m pcap))
                    (first | exact ⟨(box59 x3).2.1, (box59 x3).2.2⟩ | exact ⟨(box59 x2).2.1, (box59 x2).2.2⟩ | go_keep)
                    (first
                      | (go_at_call 16; refine hprog.mono ?_; rintro e W2 ⟨v, rfl, hp, b2⟩; have x2 := keep59_below b2 _ _ xd; obtain ⟨fa, fb, fc, rfl⟩ := hp.func (by rw [← HM.out]; omega); have sd2 := sd.below b2)
                      | (go_at_call 9; refine (start_ok sd2.sw.tt k hk fa fb fc hidle).mono ?_; rintro e W3 ⟨rfl, rfl⟩; obtain ⟨px9, k3⟩ := sd2.startedX hk hac0 htm HM.out hpos hp; have x3 := k3 _ _ x2))
                  clear y1 y2 sd sd2 hprog xd x2 s1 hp k3
                  generalize W2.setCell ⟨B, k * 2, none⟩ (.func fa fb fc) = w9 at *
                  have x9 := x3
                  clear x3
                  have PX9 := Lib.hid px9
                  have XX9 := Lib.hid x9
                  clear px9 x9
                  go_wp2_with fail
                  go_meet
                  exact ⟨PX9.out.le (Nat.le_succ i), XX9.out⟩
            · have e1 : (kd == 1) = false := beq_eq_false_iff_ne.2 hd1
              rcases Decidable.em (kd = 2) with hd2 | hd2
              · have e2 : (kd == 2) = true := by rw [hd2]; rfl
                clear hd1 hd2
                obtain ⟨z, hz⟩ : ∃ z, on k = z := ⟨_, rfl⟩
                cases z with
                | true =>
                  have y1 := (box59 xr).2.1
                  have hoh := s1.sw.lw.lk.ok
                  obtain ⟨L0, a0, c0, i0, x0, h1, h2, h3, h4, h5, hrun⟩ := s1.run hk hz (by omega)
                  have HRUN := Lib.hid hrun
                  clear hrun
                  obtain ⟨zz, hzz⟩ : ∃ zz, zz = (restF (stepF (k : Int) h x0).1 x0 (L0.drop (i0 + 1))).isEmpty := ⟨_, rfl⟩
                  have H1 := Lib.hid h1
                  have H4 := Lib.hid h4
                  have H5 := Lib.hid h5
                  clear h1 h4 h5
                  have hgo : ∀ f, Calls Try.prog 8 #[ptr T, .int .i64 (k : Int), .bool f] W1 fun e w' => e = .returned (.tuple #[.bool zz, .int .i64 0]) ∧ w'.heap[Q]? = some (.cells #[.int .i64 kd, .int .i64 (k : Int), .slice pa m pcap] 59 (0, 0)) ∧ w'.cell? ⟨R, 2, none⟩ = some (.slice (some ⟨gb 2, 0, none⟩) n (cp 2)) ∧ w'.cell? ⟨gb 2, k, none⟩ = some (.bool true) ∧
                      ∀ W, Below w'.heap.size w' W → Calls Try.prog 19 #[ptr R, .int .i64 (k : Int)] W fun e w'' => e = .returned (.bool zz) ∧ PX w0 w'' T B n Z K TB R gb cp (i + 1) ∧ w''.heap[Q]? = some (.cells #[.int .i64 kd, .int .i64 (k : Int), .slice pa m pcap] 59 (0, 0)) := by
                    intro f
                    rw [hzz]
                    refine (HRUN.out f).mono ?_
                    rintro e w' ⟨rfl, v2, a2, c2, g2, mid, hp, k59⟩
                    have xq := k59 _ _ xr
                    refine ⟨rfl, xq, mid.rw.row.cell (i := 2) (by decide), by rw [mid.rw.aO.cell hk, hz], fun W kb => ?_⟩
                    refine ((mid.below kb).step hk hz hoh (by omega) H1.out h2 h3 H4.out H5.out rfl rfl rfl (by unfold upV; rw [if_pos rfl]; exact hp.keep (keepT_below kb).keepZ)).mono ?_
                    rintro e w'' ⟨rfl, pc', on', aT', cT', gT', ps, k59'⟩
                    exact ⟨rfl, ⟨_, _, _, _, _, _, _, _, _, _, _, _, _, ps⟩, k59' _ _ (keep59_below kb _ _ xq)⟩
                  clear HRUN hzz H1 H4 H5 h2 h3 hz hoh
                  go_wp2_with fail
                  refine (hgo _).mono ?_
                  rintro e W2 ⟨rfl, xq, cR2, cO, hstep⟩
                  have y1 := (box59 xq).2.1
                  clear hgo s1 xr
                  have HSTEP := Lib.hid hstep
                  clear hstep
                  cases zz
                  all_goals
                    go_upto_region 28 with fail
                    go_quiet (fail)
                    have hst := HSTEP.out (W2.drewN nq) (below_drewN (Below.refl _ _) nq)
                    have y1 : (W2.drewN nq).cell? ⟨Q, 1, none⟩ = some (.int .i64 (k : Int)) := y1
                    clear cR2 cO HSTEP
                    generalize W2.drewN nq = W3 at *
                    go_wp2_with fail
                    refine hst.mono ?_
                    rintro e w9 ⟨rfl, px9, x9⟩
                    clear hst xq
                    clear y1
                    have PX9 := Lib.hid px9
                    have XX9 := Lib.hid x9
                    clear px9 x9
                    go_wp2_with fail
                    go_meet
                    exact ⟨PX9.out, XX9.out⟩
                | false =>
                  have y1 := (box59 xr).2.1
                  have cR2 : W1.cell? ⟨R, 2, none⟩ = some (.slice (some ⟨gb 2, 0, none⟩) n (cp 2)) := s1.rw.row.cell (i := 2) (by decide)
                  have cO := s1.rw.aO.cell hk
                  simp only [hz] at cO
                  have hidle := s1.idle hk hz
                  go_wp2_with fail
                  refine (run_idle s1.sw.tt k hk _ hidle).mono ?_
                  rintro e W2 ⟨rfl, rfl⟩
                  clear hidle
                  go_upto_region 28 with fail
                  go_quiet (fail)
                  have x9 := (show (W1.drewN nq).heap[Q]? = some (.cells #[.int .i64 kd, .int .i64 (k : Int), .slice pa m pcap] 59 (0, 0)) from xr)
                  have px9 := (s1.drewN nq).px (Nat.le_refl i)
                  clear s1 hz cR2 cO y1
                  generalize W1.drewN nq = w9 at *
                  have PX9 := Lib.hid px9
                  have XX9 := Lib.hid x9
                  clear px9 x9
                  go_wp2_with fail
                  go_meet
                  exact ⟨PX9.out.le (Nat.le_succ i), XX9.out⟩
              · have e2 : (kd == 2) = false := beq_eq_false_iff_ne.2 hd2
                clear hd1 hd2
                have px9 := s1.px (Nat.le_refl i)
                have x9 := xr
                clear s1 xr
                obtain ⟨w9, rfl⟩ : ∃ w9, w9 = W1 := ⟨_, rfl⟩
                have PX9 := Lib.hid px9
                have XX9 := Lib.hid x9
                clear px9 x9
                go_wp2_with fail
                go_meet
                exact ⟨PX9.out.le (Nat.le_succ i), XX9.out⟩
          case rest =>
            clear s1 xr y0 y1 d1 d2 d3
            obtain ⟨px9, x9⟩ := hcut
            obtain ⟨w9, rfl⟩ : ∃ w9, w9 = wc := ⟨_, rfl⟩
            have y1 := (box59 x9).2.1
            obtain ⟨nx9, dn9, h9, a9, c9, g9, told9, pr9, pc9, on9, aT9, cT9, gT9, s9⟩ := px9
            obtain ⟨z9, hz9⟩ : ∃ z9, on9 k = z9 := ⟨_, rfl⟩
            have cR2 : w9.cell? ⟨R, 2, none⟩ = some (.slice (some ⟨gb 2, 0, none⟩) n (cp 2)) := s9.rw.row.cell (i := 2) (by decide)
            have cR12 : w9.cell? ⟨R, 12, none⟩ = some (.slice (some ⟨gb 3, 0, none⟩) n (cp 3)) := s9.rw.row.cell (i := 12) (by decide)
            have cO := s9.rw.aO.cell hk
            have cS := s9.rw.aS.cell hk
            simp only [hz9] at cO
            have ne9 : (dn9 k != dn9 k) = false := by simp
            have nz9 : (z9 != z9) = false := by simp
            have HZ9 := Lib.hid hz9
            clear hz9
            go_upto_region 33 with fail
            go_quiet ((first
              | (go_at_call 10; refine Calls.quiet_of_same (((s9.drewN _).busy hk HZ9.out).mono fun _ _ ⟨he, hw⟩ => ⟨he, hw.symm⟩))
              | (go_at_call 11; refine Calls.quiet_of_same (((s9.drewN _).stepsC hk).mono fun _ _ ⟨he, hw⟩ => ⟨he, hw.symm⟩))))
            have S9 := Lib.hid (s9.drewN nq)
            clear s9 HZ9 cR2 cR12 cO cS ne9 nz9 y1
            go_wp2_with fail
            go_roundw
            case rel => exact ⟨i + 1, by omega, by go_num, S9.out.px (Nat.le_refl _)⟩
            case measure => simp [intOf]; omega
        · have y0 := (box59 xr).1
          have y1 := (box59 xr).2.1
          have hbad : badI n cu = true := by unfold badI; simp; omega
          have hor : cu < 0 ∨ (0 ≤ cu ∧ (n : Int) ≤ cu) := by omega
          clear hin
          obtain ⟨zi, hzi, hzo⟩ : ∃ zi : Bool, decide (cu ≥ 0) = zi ∧ (zi = true → decide (cu < (n : Int)) = false) := ⟨_, rfl, fun h => by simp at h ⊢; omega⟩
          clear hor
          go_cut [11] from 49 to 57 (fun s wx => s = .bool false ∧ W1 = wx)
          case first =>
            cases zi with
            | false =>
              clear hzo
              go_wp2_with fail
              go_meet
              exact ⟨rfl, rfl⟩
            | true =>
              have hzo := hzo rfl
              go_wp2_with fail
              go_meet
              exact ⟨rfl, rfl⟩
          case rest =>
            obtain ⟨rfl, rfl⟩ := hcut
            clear hzi hzo
            go_upto_block 2 with fail
            go_cut [] from 58 to 160 (fun wx => PX w0 wx T B n Z K TB R gb cp (i + 1) ∧ wx.heap[Q]? = some (.cells #[.int .i64 kd, .int .i64 cu, .slice pa m pcap] 59 (0, 0)))
            case first =>
              rcases Decidable.em (kd = 1) with hd1 | hd1
              · have e1 : (kd == 1) = true := by rw [hd1]; rfl
                clear hd1
                go_upto_region 21 with fail
                have xd : W1.drew.heap[Q]? = some (.cells #[.int .i64 kd, .int .i64 cu, .slice pa m pcap] 59 (0, 0)) := xr
                have sd := s1.below (Below.refl W1.heap.size W1).drew
                have y1 : W1.cell? ⟨Q, 1, none⟩ = some (.int .i64 cu) := (box59 xr).2.1
                have y2 : W1.cell? ⟨Q, 2, none⟩ = some (.slice pa m pcap) := (box59 xr).2.2
                have hprog := program_x Z K TB cu W1.drew sd.sw.zw (hac0.below sd.sw.bl) (by have := htm.1; omega) (by rw [← HM.out]; exact hle)
                rw [← HM.out] at hprog
                go_region_held3 (fun w' => w'.cell? ⟨Q, 1, none⟩ = some (.int .i64 cu) ∧ w'.cell? ⟨Q, 2, none⟩ = some (.slice pa m pcap))
                  (first | exact ⟨(box59 x3).2.1, (box59 x3).2.2⟩ | exact ⟨(box59 x2).2.1, (box59 x2).2.2⟩ | go_keep)
                  (first
                    | (go_at_call 16; refine hprog.mono ?_; rintro e W2 ⟨v, rfl, hp, b2⟩; have x2 := keep59_below b2 _ _ xd; have sd2 := sd.below b2)
                    | (go_at_call 9; refine (start_bad sd2.sw.tt cu hbad v).mono ?_; rintro e W3 ⟨rfl, rfl⟩; have x3 := x2; have s9 := sd2))
                clear y1 y2 sd hprog xd
                have px9 := sd2.px (Nat.le_refl i)
                clear sd2
                obtain ⟨w9, rfl⟩ : ∃ w9, w9 = W2 := ⟨_, rfl⟩
                have x9 := x2
                clear x2 x3 s9
                have PX9 := Lib.hid px9
                have XX9 := Lib.hid x9
                clear px9 x9
                go_wp2_with fail
                go_meet
                exact ⟨PX9.out.le (Nat.le_succ i), XX9.out⟩
              · have e1 : (kd == 1) = false := beq_eq_false_iff_ne.2 hd1
                rcases Decidable.em (kd = 2) with hd2 | hd2
                · have e2 : (kd == 2) = true := by rw [hd2]; rfl
                  clear hd1 hd2
                  have y1 := (box59 xr).2.1
                  go_wp2_with fail
                  refine (run_bad s1.sw.tt cu hbad _).mono ?_
                  rintro e W2 ⟨rfl, rfl⟩
                  have px9 := s1.px (Nat.le_refl i)
                  have x9 := xr
                  clear s1 xr
                  obtain ⟨w9, rfl⟩ : ∃ w9, w9 = W1 := ⟨_, rfl⟩
                  have PX9 := Lib.hid px9
                  have XX9 := Lib.hid x9
                  clear px9 x9
                  go_wp2_with fail
                  go_meet
                  exact ⟨PX9.out.le (Nat.le_succ i), XX9.out⟩
                · have e2 : (kd == 2) = false := beq_eq_false_iff_ne.2 hd2
                  clear hd1 hd2
                  have px9 := s1.px (Nat.le_refl i)
                  have x9 := xr
                  clear s1 xr
                  obtain ⟨w9, rfl⟩ : ∃ w9, w9 = W1 := ⟨_, rfl⟩
                  have PX9 := Lib.hid px9
                  have XX9 := Lib.hid x9
                  clear px9 x9
                  go_wp2_with fail
                  go_meet
                  exact ⟨PX9.out.le (Nat.le_succ i), XX9.out⟩
            case rest =>
              clear s1 xr y0 y1
              obtain ⟨px9, x9⟩ := hcut
              obtain ⟨w9, rfl⟩ : ∃ w9, w9 = wc := ⟨_, rfl⟩
              obtain ⟨nx9, dn9, h9, a9, c9, g9, told9, pr9, pc9, on9, aT9, cT9, gT9, s9⟩ := px9
              go_upto_region 33 with fail
              go_quiet (fail)
              have S9 := Lib.hid (s9.drewN nq)
              clear s9
              go_wp2_with fail
              go_roundw
              case rel => exact ⟨i + 1, by omega, by go_num, S9.out.px (Nat.le_refl _)⟩
              case measure => simp [intOf]; omega
      · have hil : i = len := by omega
        have cT8 := s.sw.lw.tb.cell
        have cR11 : wr.cell? ⟨R, 11, none⟩ = some (.slice aT told.length cT) := s.rw.row.cell (i := 11) (by decide)
        have nTT : ((told.length : Int) != (told.length : Int)) = false := by simp
        have S := Lib.hid s
        clear s hil
        go_upto_region 36 with fail
        go_quiet (fail)
        go_upto_region 39 with fail
        have s2 := S.out.drewN nq
        clear cT8 cR11 S
        generalize wr.drewN nq = w5 at *
        have cT8 := s2.sw.lw.tb.cell
        have cR11 : w5.cell? ⟨R, 11, none⟩ = some (.slice aT told.length cT) := s2.rw.row.cell (i := 11) (by decide)
        have he := eq51
        have hT400 : told.length ≤ 400 := by have := s2.tl; omega
        go_loopw [203] (fun v wx => ∃ j : Nat, j ≤ told.length ∧ v = .int .i64 j ∧ ∃ d, wx = w5.drewN d) (fun v _ => told.length - (intOf v).toNat)
        case atStart => exact ⟨0, Nat.zero_le _, rfl, 0, rfl⟩
        case round =>
          obtain ⟨j, hj, rfl, d, rfl⟩ := hrel
          by_cases hjt : j < told.length
          · obtain ⟨x, hx⟩ : ∃ x, told[j]? = some x := ⟨_, List.getElem?_eq_getElem hjt⟩
            have e0 := s2.sw.lw.own.cell (cells2_at hx).1
            have e1 := s2.sw.lw.own.cell (cells2_at hx).2
            have f0 := s2.rw.own.cell (cells2_at hx).1
            have f1 := s2.rw.own.cell (cells2_at hx).2
            have S2 := Lib.hid s2
            obtain rfl := s2.sw.lw.own.at_ (by omega)
            obtain rfl := s2.rw.own.at_ (by omega)
            obtain ⟨x0, x1⟩ := x
            simp only at e0 e1 f0 f1
            have j0 : (0 : Int) ≤ (j : Int) := by omega
            have j1 : (j : Int) < (told.length : Int) := by omega
            clear s2 hx S2
            go_upto_region 41 with fail
            go_quiet (fail)
            go_wp2_with fail
            go_roundw
            case rel => exact ⟨j + 1, by omega, by go_num, _, rfl⟩
            case measure => simp [intOf]; omega
          · clear cT8 cR11 he
            have s3 := s2.drewN d
            clear s2
            go_upto_region 45 with fail
            clear hjt hj
            generalize w5.drewN d = w6 at *
            go_loopw [219] (fun v wx => ∃ k : Nat, k ≤ 8 ∧ v = .int .i64 k ∧ PS w0 wx T B n nx dn Z K TB h a' c' g' told R gb cp pr pc on aT cT gT i n) (fun v _ => 8 - (intOf v).toNat)
            case atStart => exact ⟨0, Nat.zero_le _, rfl, s3⟩
            case round =>
              clear s3
              obtain ⟨k, hk, rfl, s3⟩ := hrel
              by_cases hk8 : k < 8
              · have hol : ∀ W, Lk.Tab W K 8 h → Calls Try.prog 20 #[ptr K, .int .i64 (k : Int)] W fun e w' => e = .returned (.int .i64 (h k)) ∧ W = w' := fun W t => by
                  have q := Lk.holder_any K 8 h (k : Int) W t
                  have eh : Lk.holderF 8 h (k : Int) = h k := by
                    unfold Lk.holderF Lk.bad
                    simp
                    omega
                  rw [eh] at q
                  exact q
                have HOL := Lib.hid hol
                clear hol
                have cH : wr.cell? ⟨R, 3 + k, none⟩ = some (.int .i64 (h k)) := by
                  rw [s3.rw.row.cell (i := 3 + k) (by omega)]
                  unfold refF
                  rw [if_neg (by omega), if_neg (by omega), if_neg (by omega), if_neg (by omega), if_neg (by omega), show 3 + k - 3 = k by omega]
                have nH : (h k != h k) = false := by simp
                have k0 : (0 : Int) ≤ (k : Int) := by omega
                have k1 : (k : Int) < 8 := by omega
                go_upto_region 47 with fail
                go_quiet ((go_at_call 20; refine Calls.quiet_of_same ((HOL.out _ (s3.drewN _).sw.lw.lk).mono fun _ _ ⟨he, hw⟩ => ⟨he, hw.symm⟩)))
                go_wp2_with fail
                go_roundw
                case rel => exact ⟨k + 1, by omega, by go_num, s3.drewN _⟩
                case measure => simp [intOf]; omega
              · have BL := Lib.hid s3.sw.bl
                clear s3
                go_wp2_with fail
                refine (known_any _).mono ?_
                rintro e WF ⟨rfl, bF⟩
                go_wp2_with fail
                go_ret
                exact ⟨rfl, below_then (below_then B1.out BL.out) bF⟩
end Go.Proofs.Ytjobdncikpnojaa
