/-
  The walk of the law LocksRise.
-/
import Derived.Test.YteafbkgaihjieaaRiseP
import Derived.Test.YteafbkgaihjieaaOne
namespace Go.Proofs.Yteafbkgaihjieaa
open Go.RowKit

theorem St.below_drewN {w0 w : World} {b n : Nat} {h : Hold} (s : St w0 w b n h) (m : Nat) : Below w0.heap.size w0 (w.drewN m) := ⟨s.below.os, s.below.tape, s.below.output, s.below.size, s.below.block⟩
theorem turn_mod (turn : Int) : (IntKind.u64.wrap turn).tmod 64 = ((turn % 64).toNat : Int) := by
  rw [IntKind.wrap_u64, Int.tmod_eq_emod_of_nonneg (by omega)]; omega
/-- Cells of a row, from its head. -/
def CellsOf (w : World) (g : Nat) (l : List Nat) : Prop := ∀ t, t < l.length → w.cell? ⟨g, t, none⟩ = some (.int .i64 ((l.getD t 0 : Nat) : Int))
theorem getD_cast (l : List Nat) (t : Nat) : (l.map fun (i : Nat) => (i : Int)).getD t 0 = ((l.getD t 0 : Nat) : Int) := by
  simp only [List.getD, List.getElem?_map]
  cases l[t]? <;> rfl
theorem St.alloc {w0 w : World} {b n : Nat} {h : Hold} (s : St w0 w b n h) (o : Obj) : St w0 (w.alloc o) b n h := ⟨⟨s.tab.row.alloc o, s.tab.le, s.tab.ok⟩, s.below.alloc s.below.size _, s.own⟩
theorem St.grown {w0 w w' : World} {b n : Nat} {h : Hold} (s : St w0 w b n h) {row : Option Nat} (g : w.grownBy w' row) (hr : ∀ k, row = some k → b < k) : St w0 w' b n h :=
  ⟨⟨s.tab.row.of_block (g.block b s.tab.lt (fun e => by have := hr b e.symm; omega)), s.tab.le, s.tab.ok⟩,
    s.below.grown g s.below.size (fun k hk => by have := hr k hk; have := s.own; omega), s.own⟩

set_option maxRecDepth 100000 in
set_option maxHeartbeats 1000000 in
theorem rise_any (n who bits turn : Int) (w : World) (hwho : who ≤ 9223372036854775807) (hb0 : 0 ≤ bits) (hb1 : bits ≤ 18446744073709551615) :
    Calls Try.prog 6 #[.int .i64 n, .int .i64 who, .int .u64 bits, .int .i64 turn] w fun e w' => e = .returned (.bool true) ∧ Below w.heap.size w w' := by
  obtain ⟨i0, hi, hz0, hz1, hz2⟩ := info_parts info3
  by_cases hw : who < 0
  · go_enter Try.func6, Try.ntmps6
    go_wp2_with fail
    refine (known_any w).mono ?_
    rintro e w' ⟨rfl, hb⟩
    go_wp2_with fail
    go_ret
    exact ⟨rfl, hb⟩
  · have h0 : 0 ≤ who := by omega
    go_enter Try.func6, Try.ntmps6
    go_wp2_with fail
    refine (new_st (Below.refl _ w) n rfl).mono ?_
    rintro e w1 ⟨rfl, s1⟩
    rw [← rise_zero bits who] at s1
    generalize hB : w.heap.size = B at s1
    generalize hN : clampN n = N at s1
    have hN64 := s1.tab.le
    go_wp2_with fail
    refine (locks_any B N _ w1 s1.tab).mono ?_
    rintro e w' ⟨rfl, rfl⟩
    go_wp2_with fail
    go_loopw [10, 25] (fun v i wr => ∃ k : Nat, k ≤ N ∧ i = .int .i64 k ∧ St w wr B N (riseH bits who k) ∧ wr.ownsRow (B + 1) 3 1 v (ownL bits k).length ((ownL bits k).map fun i : Nat => Value.int .i64 (i : Int))) (fun _ i _ => N - (intOf i).toNat)
    case atStart => exact ⟨0, Nat.zero_le _, rfl, s1, World.ownsRow_nil _ _ _ _⟩
    case round =>
      obtain ⟨k, hk, rfl, s, hown⟩ := hrel
      by_cases hlt : k < N
      · cases hbit : bitS bits k with
        | false =>
          have E1 := Lib.hid (rise_skip (who := who) hbit)
          have E2 := Lib.hid (own_skip hbit)
          have q : ((bits / 2 ^ k).tmod 2 == 0) = true := by unfold bitS at hbit; simpa using hbit
          clear hbit
          go_wp2_with fail
          go_roundw
          case rel => exact ⟨k + 1, by omega, by go_num, by rw [E1.out]; exact s, by rw [E2.out]; exact hown⟩
          case measure => simp [intOf]; omega
        | true =>
          have E1 := Lib.hid (rise_take (who := who) hbit)
          have E2 := Lib.hid (own_take hbit)
          have hol := own_len bits k
          have q : ((bits / 2 ^ k).tmod 2 == 0) = false := by unfold bitS at hbit; simpa using hbit
          clear hbit
          go_wp2_with fail
          refine (try_any B N _ who k wr s.tab hwho).mono ?_
          rw [rise_try h0 hlt]
          rintro e w2 ⟨rfl, t2, o2⟩
          have hown2 := hown.kept o2 (by right; intro e; have := (hown.lt _ e).1; omega)
          have s2 := s.only t2 o2
          have hsz : B + 1 ≤ w2.heap.size := t2.lt
          clear hown t2 o2 s
          generalize ownL bits k = l at *
          go_wp2_with (at_builtin; refine wpList_append_own _ rfl (.tmp 46) (.tmp 48) 38 rfl (B + 1) 3 i0 (.int .i64 0) 1 8 Try.underlying38 hi hz0 hz1 hz2 rfl (by decide) _ _ _ rfl (hown2.alloc _) ⟨w2.heap.size, 0, none⟩ 1 1 [.int .i64 (k : Int)] rfl rfl (cell_one_new _ _ _) (ints_oneCell .i64 [(k : Int)]) (by unfold maxLen; omega) (by omega) (by simp; omega) ?_)
          intro v' w3 hown3 hgrow _
          have s3 : St w w3 B N (upd (riseH bits who k) k who) := (s2.alloc _).grown hgrow (fun j hj => by have := (hown2.lt j hj).1; omega)
          clear hgrow hown2 s2
          go_wp2_with fail
          go_roundw
          case rel => exact ⟨k + 1, by omega, by go_num, by rw [E1.out]; exact s3, by rw [E2.out, List.length_append, List.map_append]; exact hown3⟩
          case measure => simp [intOf]; omega
      · obtain rfl : k = N := by omega
        go_wp2_with fail
        refine (held_any B k _ who wr s.tab).mono ?_
        rintro e w2 ⟨v, rfl, hheld, hb2⟩
        rw [rise_held h0] at hheld
        have hown2 := hown.kept (w' := w2) (row := none) ⟨hb2.os, hb2.tape, hb2.output, hb2.size, fun j hj _ => hb2.block j hj⟩ (by cases hv : u10.ownBlock <;> simp)
        have s2 : St w w2 B k (riseH bits who k) := ⟨s.tab.below hb2, s.below.trans (hb2.mono s.below.size), s.own⟩
        clear hown s hb2
        have hol := own_len bits k
        have hnd := own_nodup bits k
        have hlt2 : ∀ t, t < (ownL bits k).length → (ownL bits k).getD t 0 < k := fun t ht => own_lt ht
        have HST := Lib.hid (rem_start (bits := bits) (who := who) (N := k) (r := (turn % 64).toNat))
        generalize ownL bits k = l at *
        obtain ⟨av, capv, gv, rfl, _, hva, hvc⟩ := owned_at hheld
        rw [show List.map (fun i : Nat => Value.int .i64 (i : Int)) l = (List.map (fun i : Nat => (i : Int)) l).map (Value.int .i64) by rw [List.map_map]; rfl, show l.length = (List.map (fun i : Nat => (i : Int)) l).length by simp] at hown2
        obtain ⟨ao, capo, go, hu, _, hoa, hoc⟩ := owned_at hown2
        rw [hu]
        clear hu hheld hown2
        rw [List.length_map] at hva hvc hoa hoc
        rw [List.length_map]
        go_wp2_with fail
        have hvc' : CellsOf w2 gv l := fun t ht => by have := hvc t ht; rwa [getD_cast] at this
        have hoc' : CellsOf w2 go l := fun t ht => by have := hoc t ht; rwa [getD_cast] at this
        have HV := Lib.hid hva
        have HO := Lib.hid hoa
        have HL := Lib.hid hlt2
        clear hvc hoc hva hoa hlt2
        go_loopw [61] (fun i wr => ∃ j : Nat, j ≤ l.length ∧ i = .int .i64 j ∧ ∃ m, wr = w2.drewN m) (fun i _ => l.length - (intOf i).toNat)
        case atStart => exact ⟨0, Nat.zero_le _, rfl, 0, rfl⟩
        case round =>
          obtain ⟨j, hj, rfl, m, rfl⟩ := hrel
          by_cases hlt2 : j < l.length
          · obtain ⟨rfl, _⟩ := HV.out (by omega)
            obtain ⟨rfl, _⟩ := HO.out (by omega)
            have c1 := hvc' j hlt2
            have c2 := hoc' j hlt2
            generalize ((l.getD j 0 : Nat) : Int) = x at c1 c2
            go_wp2_with fail
            go_quiet (fail)
            go_wp2_with fail
            go_roundw
            case rel => exact ⟨j + 1, by omega, by go_num, _, rfl⟩
            case measure => simp [intOf]; omega
          · go_wp2_with fail
            have hgo : 0 < l.length → B < go := fun hp => (HO.out hp).2.1
            go_loopw [76] (fun i wr => ∃ j : Nat, j ≤ l.length ∧ i = .int .i64 j ∧ St w wr B k (remH l (turn % 64).toNat who j) ∧ CellsOf wr go l) (fun i _ => l.length - (intOf i).toNat)
            case atStart => exact ⟨0, Nat.zero_le _, rfl, by rw [← HST.out]; exact ⟨s2.tab.drewN m, s2.below_drewN m, s2.own⟩, fun t ht => hoc' t ht⟩
            case round =>
              obtain ⟨j, hj, rfl, s, hc⟩ := hrel
              by_cases hlt3 : j < l.length
              · obtain ⟨rfl, _⟩ := HO.out (by omega)
                obtain ⟨r, hr, hT⟩ : ∃ r : Nat, r = (turn % 64).toNat ∧ (IntKind.u64.wrap turn).tmod 64 = (r : Int) := ⟨_, rfl, turn_mod turn⟩
                have hr63 : r ≤ 63 := by omega
                rw [← hr] at s
                have hxlt := Nat.mod_lt (j + r) (show 0 < l.length by omega)
                have hxN := HL.out _ hxlt
                have efree := rem_free hnd h0 hlt3 hxN
                have egone := rem_gone (who := who) hnd hlt3 hxN
                have cx := hc _ hxlt
                obtain ⟨x, hx⟩ : ∃ x : Nat, x = (j + r) % l.length := ⟨_, rfl⟩
                rw [← hx] at hxlt hxN efree egone cx
                have hm1 : ((j : Int) + (r : Int)).tmod (l.length : Int) = (x : Int) := by rw [hx, Int.tmod_eq_emod_of_nonneg (by omega), Int.natCast_emod, Int.natCast_add]
                have hm2 : ((j : Int) + (r : Int)) % (l.length : Int) = (x : Int) := by rw [hx, Int.natCast_emod, Int.natCast_add]
                have HX := Lib.hid hx
                have HR := Lib.hid hr
                have EF := Lib.hid efree
                have EG := Lib.hid egone
                clear hx hr efree egone
                generalize l.getD x 0 = y at *
                go_wp2_with fail
                refine (free_any B k _ who y wr s.tab hwho).mono ?_
                rw [EF.out]
                rintro e w3 ⟨rfl, t3, o3⟩
                have s3 := s.only t3 o3
                have hg' := hgo (by omega)
                have hc3 : CellsOf w3 go l := fun t ht => o3.cell (hc t ht) (by show some go ≠ some B; intro e; cases e; omega)
                clear o3 t3 s
                go_wp2_with fail
                refine (holder_st s3 (y : Int) EG.out).mono ?_
                rintro e w' ⟨rfl, rfl⟩
                go_wp2_with fail
                go_roundw
                case rel => exact ⟨j + 1, by omega, by go_num, by rw [← HR.out]; exact s3, hc3⟩
                case measure => simp [intOf]; omega
              · obtain rfl : j = l.length := by omega
                go_wp2_with fail
                refine (held_any B k _ who wr s.tab).mono ?_
                rintro e w4 ⟨v, rfl, hh, hb4⟩
                rw [rem_end h0 k] at hh
                obtain ⟨a4, c4, g4, rfl, _, _, _⟩ := owned_at hh
                have s4 : Below w.heap.size w w4 := s.below.trans (hb4.mono s.below.size)
                clear hh
                go_wp2_with fail
                refine (known_any w4).mono ?_
                rintro e w' ⟨rfl, hb⟩
                go_wp2_with fail
                go_ret
                exact ⟨rfl, s4.trans (hb.mono s4.size)⟩
end Go.Proofs.Yteafbkgaihjieaa
