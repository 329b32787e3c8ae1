/-
  The walk of the law ClockRounds.
-/
import Derived.Test.YthgajdaiklfjhaaKnown
import Derived.Test.YthgajdaiklfjhaaLawsP
import Derived.Test.YthgajdaiklfjhaaOpsI
namespace Go.Proofs.Ythgajdaiklfjhaa
open Go.RowKit

theorem St.kd {w0 w : World} {D b g : Nat} {L : Rg} (s : St w0 w D b g L) {x : En} (hx : x ∈ L) : kdI x.1 := by
  obtain ⟨a, c, o, k⟩ := s.ck
  exact k.map.kd KI (x := x.1) (v := encM x.2) (by unfold mapC; rw [markO_of k.ok (m := x.2) hx]; rfl)
theorem actN_zero {L : Rg} (h : zero L) : actN L = 0 := by
  unfold actN
  rw [List.length_eq_zero_iff, List.filter_eq_nil_iff]
  intro f _
  unfold actP
  cases hm : markO L f with
  | none => simp
  | some m =>
    have := h _ (markO_mem hm)
    simp at this
    subst this
    simp
/-- A row of the law's own, apart from the clock. -/
structure Row (w0 w : World) (D b g : Nat) (a : Option Addr) (n c gt o : Nat) (xs : List Int) : Prop where
  ring : RingAt w w0.heap.size 3 a n c gt o xs
  ne : a ≠ none → gt ≠ D ∧ gt ≠ b ∧ gt ≠ g
section
variable {w0 w w' : World} {D b g : Nat} {a : Option Addr} {n c gt o : Nat} {xs : List Int} {L : Rg}
theorem Row.tri (h : Row w0 w D b g a n c gt o xs) (t : Tri w w' D g b) {g' : Nat} (hg : g' = g ∨ w.heap.size ≤ g') : Row w0 w' D b g' a n c gt o xs :=
  ⟨h.ring.of_block fun ha => t.block gt (h.ring.lt ha).2 (h.ne ha).1 (h.ne ha).2.2 (h.ne ha).2.1, fun ha => ⟨(h.ne ha).1, (h.ne ha).2.1, by
    have := (h.ring.lt ha).2
    have := (h.ne ha).2.2
    rcases hg with rfl | hg <;> omega⟩⟩
theorem Row.below (h : Row w0 w D b g a n c gt o xs) (k : Below w.heap.size w w') : Row w0 w' D b g a n c gt o xs := ⟨h.ring.below k, h.ne⟩
/-- Behind an append to it. -/
theorem Row.moved (h : Row w0 w D b g a n c gt o xs) (s : St w0 w D b g L) {a' : Option Addr} {n' c' gt' o' : Nat} {xs' : List Int} (hr : RingAt w' w0.heap.size 3 a' n' c' gt' o' xs') (ha : a' ≠ none) (hm : Moved w w' a gt gt') :
    Row w0 w' D b g a' n' c' gt' o' xs' ∧ St w0 w' D b g L := by
  have h1 := s.ltD.2
  have h2 := s.ltb.2
  have h3 := s.ltg.2
  rcases hm with ⟨h4, rfl, h5⟩ | ⟨rfl, h5⟩
  · have hne := h.ne h4
    exact ⟨⟨hr, fun _ => hne⟩, s.only h5 ⟨hne.1.symm, hne.2.2.symm, hne.2.1.symm⟩ (h.ring.lt h4).1⟩
  · exact ⟨⟨hr, fun _ => ⟨by omega, by omega, by omega⟩⟩, s.belowW h5⟩
end
set_option maxRecDepth 100000 in
set_option maxHeartbeats 8000000 in
theorem rounds_any (a : Option Addr) (len cap bo off : Nat) (V : Nat → Nat → Int) (w : World) (o : OpsI w a len bo off 2 V) (hlen : len ≤ 9223372036854775807) :
    Calls Try.prog 5 #[.slice a len cap] w fun e w' => e = .returned (.bool true) ∧ Below w.heap.size w w' := by
  obtain ⟨i0, hi, hz0, hz1, hz2⟩ := info_parts info3
  by_cases h100 : 100 < len
  · go_enter Try.func5, Try.ntmps5
    go_wp2_with fail
    refine (known_any w).mono ?_
    rintro e w' ⟨rfl, hb⟩
    go_wp2_with fail
    go_ret
    exact ⟨rfl, hb⟩
  have d1 : decide ((100 : Int) < (len : Int)) = false := by simp; omega
  have d2 : decide (100 < len) = false := by simp; omega
  go_enter Try.func5, Try.ntmps5
  go_wp2_with fail
  refine (new_st (Below.refl _ w)).mono ?_
  rintro e w1 ⟨rfl, s, _⟩
  generalize w.heap.size + 1 = D at *
  clear d1 d2
  go_wp2_with fail
  go_loopw [22] (fun v wr => ∃ k : Nat, k ≤ len ∧ v = .int .i64 k ∧ ∃ (b g : Nat) (L : Rg), L.length ≤ k ∧ St w wr D b g L) (fun v _ => len - (intOf v).toNat)
  case atStart => exact ⟨0, by omega, rfl, _, _, [], by simp, s⟩
  case round =>
    clear s
    obtain ⟨k, hk, rfl, b, g, L, hLk, s⟩ := hrel
    by_cases hlt : k < len
    · have o' := o.below s.below
      have ck := o'.c0 hlt (by omega)
      have c1 := o'.cell k hlt 1 (by omega)
      have hkd : kdI (V k 1) := wf64 (o.i64 k hlt 1 (by omega)).1 (o.i64 k hlt 1 (by omega)).2
      obtain rfl := o.at_ (by omega)
      have hL6 : L.length ≤ 1000000 := by omega
      rcases Decidable.em (V k 0 = 1) with hk1 | hk1
      · have q1 : (V k 0 == 1) = true := by rw [hk1]; rfl
        obtain ⟨x, L', hx⟩ : ∃ x L', removeC L (V k 1) = (x, L') := ⟨_, _, rfl⟩
        have hl := len_removeC L (V k 1)
        rw [hx] at hl
        have HX := Lib.hid hx
        clear hx hk1
        go_wp2_with fail
        refine (remove_st s hkd HX.out).mono ?_
        rintro e w5 ⟨rfl, g5, hg5, s5, t5⟩
        clear hg5 t5 s
        go_wp2_with fail
        go_roundw
        case rel => exact ⟨k + 1, by omega, by go_num, b, g5, L', by omega, s5⟩
        case measure => simp [intOf]; omega
      · have q1 : (V k 0 == 1) = false := beq_eq_false_iff_ne.2 hk1
        clear hk1
        rcases Decidable.em (V k 0 = 2) with hk2 | hk2
        · have q2 : (V k 0 == 2) = true := by rw [hk2]; rfl
          obtain ⟨x, L', hx⟩ : ∃ x L', touchC L (V k 1) = (x, L') := ⟨_, _, rfl⟩
          have hl := len_touchC L (V k 1)
          rw [hx] at hl
          have HX := Lib.hid hx
          have HLL := Lib.hid hl
          clear hx hk2 hl
          go_wp2_with fail
          refine (touch_st s hkd HX.out).mono ?_
          rintro e w5 ⟨rfl, g5, hg5, s5, t5⟩
          clear hg5 t5 s
          go_wp2_with fail
          go_roundw
          case rel => exact ⟨k + 1, by omega, by go_num, b, g5, L', by have := HLL.out; omega, s5⟩
          case measure => simp [intOf]; omega
        · have q2 : (V k 0 == 2) = false := beq_eq_false_iff_ne.2 hk2
          clear hk2
          rcases Decidable.em (V k 0 = 3) with hk3 | hk3
          · have q3 : (V k 0 == 3) = true := by rw [hk3]; rfl
            obtain ⟨x, L', hx⟩ : ∃ x L', nextC L = (x, L') := ⟨_, _, rfl⟩
            have hl := len_nextC L
            rw [hx] at hl
            have HX := Lib.hid hx
            have HLL := Lib.hid hl
            clear hx hk3 hl
            go_wp2_with fail
            refine (next_st s hL6 HX.out).mono ?_
            rintro e w5 ⟨rfl, g5, hg5, s5, t5⟩
            clear hg5 t5 s
            go_wp2_with fail
            go_roundw
            case rel => exact ⟨k + 1, by omega, by go_num, b, g5, L', by have := HLL.out; omega, s5⟩
            case measure => simp [intOf]; omega
          · have q3 : (V k 0 == 3) = false := beq_eq_false_iff_ne.2 hk3
            obtain ⟨x, L', hx⟩ : ∃ x L', addC L (V k 1) = (x, L') := ⟨_, _, rfl⟩
            have hl := len_addC L (V k 1)
            rw [hx] at hl
            have HX := Lib.hid hx
            clear hx hk3
            go_wp2_with fail
            refine (add_st s hL6 hkd HX.out).mono ?_
            rintro e w5 ⟨rfl, g5, hg5, s5, t5⟩
            clear hg5 t5 s
            go_wp2_with fail
            go_roundw
            case rel => exact ⟨k + 1, by omega, by go_num, b, g5, L', by omega, s5⟩
            case measure => simp [intOf]; omega
    · obtain ⟨n, hn⟩ : ∃ n, L.length = n := ⟨_, rfl⟩
      have hn100 : n ≤ 100 := by omega
      have HN := Lib.hid hn
      have hkl : k = len := by omega
      subst hkl
      clear hn hLk
      go_wp2_with fail
      refine (len_st s HN.out).mono ?_
      rintro e w5 ⟨rfl, rfl⟩
      go_wp2_with fail
      go_loopw [64] (fun v wr => ∃ i : Nat, i ≤ 3 * n ∧ v = .int .i64 i ∧ ∃ g j : Nat, i ≤ j ∧ St w wr D b g (Nat.repeat rot j L)) (fun v _ => 3 * n - (intOf v).toNat)
      case atStart => exact ⟨0, by omega, rfl, g, 0, Nat.le_refl _, s⟩
      case round =>
        clear s
        obtain ⟨i, hi3, rfl, g, j, hij, s⟩ := hrel
        by_cases hin : i < 3 * n
        · have hint : (i : Int) < 3 * (n : Int) := by omega
          obtain ⟨f, j', hx, hj'⟩ := next_rep (L := L) rfl hij (by intro e; have := HN.out; rw [e] at this; simp at this; omega)
          have HX := Lib.hid hx
          have hl6 : (Nat.repeat rot j L).length ≤ 1000000 := by rw [len_rots, HN.out]; omega
          clear hx
          go_wp2_with fail
          refine (next_st s hl6 HX.out).mono ?_
          rintro e w6 ⟨rfl, g6, hg6, s6, t6⟩
          clear hg6 t6 s hl6
          unfold toldV
          go_wp2_with fail
          go_roundw
          case rel => exact ⟨i + 1, by omega, by go_num, g6, j', hj', s6⟩
          case measure => simp [intOf]; omega
        · have hint : ¬ (i : Int) < 3 * (n : Int) := by omega
          have hint2 : 3 * (n : Int) ≤ (i : Int) := by omega
          have hz := zero_late L (j := j) (by rw [HN.out]; omega)
          have hnl : (Nat.repeat rot j L).length = n := by rw [len_rots, HN.out]
          generalize Nat.repeat rot j L = Z at *
          have HZ := Lib.hid hz
          have HL := Lib.hid hnl
          clear hz hnl HN hij
          go_wp2_with fail
          go_loopw [8, 75] (fun tv v wr => ∃ i : Nat, i ≤ n ∧ v = .int .i64 i ∧ ∃ (g : Nat) (ta : Option Addr) (tc gt tO : Nat), tv = .slice ta i tc ∧ Row w wr D b g ta i tc gt tO ((Z.take i).map Prod.fst) ∧ St w wr D b g (turn Z i)) (fun _ v _ => n - (intOf v).toNat)
          case atStart => exact ⟨0, by omega, rfl, g, none, 0, 0, 0, rfl, ⟨RingAt.nil _ _ _ _ _, fun h => absurd rfl h⟩, by rw [turn_zero]; exact s⟩
          case round =>
            clear s
            obtain ⟨i, hi', rfl, g, ta, tc, gt, tO, rfl, t, s⟩ := hrel
            have htl := t.ring.le
            by_cases hin' : i < n
            · obtain ⟨x, hx⟩ : ∃ x, Z[i]? = some x := ⟨_, List.getElem?_eq_getElem (by rw [HL.out]; omega)⟩
              have hnx := next_turn HZ.out hx
              have hl6 : (turn Z i).length ≤ 1000000 := by rw [turn, List.length_append, List.length_drop, List.length_take, HL.out]; omega
              have hkd := s.kd (turn_mem.2 (List.mem_of_getElem? hx))
              have hht := has_turn (k := i + 1) hx
              have htk : (Z.take (i + 1)).map Prod.fst = (Z.take i).map Prod.fst ++ [x.1] := by rw [List.take_add_one, hx, List.map_append]; rfl
              have hun : ∀ j y, j < i → (((Z.take i).map Prod.fst)[j]? = some y) → y ≠ x.1 := by
                intro j y hj hy e
                subst e
                have hnd : (Z.map Prod.fst).Nodup := by
                  have := s.ok.nd
                  unfold turn at this
                  rw [List.map_append, List.nodup_append] at this
                  rw [← List.take_append_drop i Z, List.map_append, List.nodup_append]
                  exact ⟨this.2.1, this.1, fun a ha b hb e => this.2.2 b hb a ha e.symm⟩
                rw [List.getElem?_map, List.getElem?_take, if_pos hj] at hy
                have h1 : (Z.map Prod.fst)[j]? = some x.1 := by rw [List.getElem?_map]; exact hy
                have h2 : (Z.map Prod.fst)[i]? = some x.1 := by rw [List.getElem?_map, hx]; rfl
                have := (List.getElem?_inj (List.getElem?_eq_some_iff.1 h1).1 hnd).1 (h1.trans h2.symm)
                omega
              have HX := Lib.hid hnx
              have HT := Lib.hid hht
              have HK := Lib.hid htk
              have HU := Lib.hid hun
              obtain ⟨f, fm⟩ := x
              simp only at hkd
              clear hx hnx hht htk hun
              go_wp2_with fail
              refine (next_st s hl6 HX.out).mono ?_
              rintro e w6 ⟨rfl, g6, hg6, s6, t6⟩
              have tr6 := t.tri t6 hg6
              clear hg6 t6 s t hl6
              unfold toldV
              go_wp2_with fail
              refine (has_st s6 hkd HT.out).mono ?_
              rintro e w7 ⟨rfl, b7⟩
              have s7 := s6.belowW b7
              have t7 := tr6.below b7
              clear s6 tr6 b7
              go_wp2_with fail
              go_loop [92] (fun v => ∃ k : Nat, k ≤ i ∧ v = .int .i64 k) (fun v => i - (intOf v).toNat)
              case atStart => exact ⟨0, by omega, rfl⟩
              case round =>
                obtain ⟨k, hk', rfl⟩ := hrel
                by_cases hki : k < i
                · obtain ⟨y, hy, hcy⟩ := t7.ring.get hki
                  obtain rfl := t7.ring.pos (by omega)
                  have q : (y == f) = false := beq_eq_false_iff_ne.2 (HU.out k y hki hy)
                  clear hy
                  go_wp2
                  go_round
                  case rel => exact ⟨k + 1, by omega, by go_num⟩
                  case measure => simp [intOf]; omega
                · have hki' : k = i := by omega
                  subst hki'
                  have bA := below_new w7 (.cells #[.int .i64 f] 3)
                  have s8 := s7.belowW bA
                  have t8 := t7.below bA
                  have hA : (w7.alloc (.cells #[.int .i64 f] 3)).cell? ⟨w7.heap.size, 0, none⟩ = some (.int .i64 f) := by rw [World.cell?_alloc_new]; rfl
                  have HA := Lib.hid hA
                  have hB2 : w.heap.size ≤ (w7.alloc (.cells #[.int .i64 f] 3)).heap.size := s8.below.size
                  have HB2 := Lib.hid hB2
                  have hk6 : k ≤ 1000000 := by omega
                  clear hA hB2 bA
                  go_wp2_with (at_builtin; refine wpList_append_ring _ rfl (.tmp 102) (.tmp 104) 23 rfl Try.underlying23 hi hz0 hz1 hz2 rfl t8.ring rfl rfl HA.out hk6 HB2.out ?_)
                  intro a3 c3 g3 o3 w9 hr ha hmv
                  obtain ⟨t9, s9⟩ := t8.moved s8 hr ha hmv
                  clear hr hmv s8 t8 s7 t7
                  go_wp2_with fail
                  go_roundw
                  case rel => exact ⟨k + 1, by omega, by go_num, g6, a3, c3, g3, o3, rfl, by rw [HK.out, List.map_take]; exact t9, s9⟩
                  case measure => simp [intOf]; omega
            · have hin2 : i = n := by omega
              subst hin2
              have hti : turn Z i = Z := by have := turn_len Z; rwa [HL.out] at this
              have htk : Z.take i = Z := List.take_of_length_le (by rw [HL.out]; omega)
              rw [hti] at s
              rw [htk] at t
              clear hti htk
              go_wp2_with fail
              go_loopw [109] (fun v wr => ∃ k : Nat, k ≤ i ∧ v = .int .i64 k ∧ ∃ g : Nat, Row w wr D b g ta i tc gt tO (Z.map Prod.fst) ∧ St w wr D b g (turn Z k)) (fun v _ => i - (intOf v).toNat)
              case atStart => exact ⟨0, by omega, rfl, g, t, by rw [turn_zero]; exact s⟩
              case round =>
                clear s t
                obtain ⟨k, hk', rfl, g, t, s⟩ := hrel
                by_cases hki : k < i
                · obtain ⟨x, hx⟩ : ∃ x, Z[k]? = some x := ⟨_, List.getElem?_eq_getElem (by rw [HL.out]; omega)⟩
                  have hnx := next_turn HZ.out hx
                  have hl6 : (turn Z k).length ≤ 1000000 := by rw [turn, List.length_append, List.length_drop, List.length_take, HL.out]; omega
                  have hxm : (Z.map Prod.fst)[k]? = some x.1 := by rw [List.getElem?_map, hx]; rfl
                  have HX := Lib.hid hnx
                  have HM := Lib.hid hxm
                  obtain ⟨f, fm⟩ := x
                  clear hx hnx hxm
                  go_wp2_with fail
                  refine (next_st s hl6 HX.out).mono ?_
                  rintro e w6 ⟨rfl, g6, hg6, s6, t6⟩
                  have tr6 := t.tri t6 hg6
                  clear hg6 t6 s t hl6
                  have hcy := tr6.ring.cell k f HM.out
                  obtain rfl := tr6.ring.pos (by omega)
                  unfold toldV
                  go_wp2_with fail
                  go_roundw
                  case rel => exact ⟨k + 1, by omega, by go_num, g6, tr6, s6⟩
                  case measure => simp [intOf]; omega
                · have hki' : k = i := by omega
                  subst hki'
                  have hti : turn Z k = Z := by have := turn_len Z; rwa [HL.out] at this
                  rw [hti] at s
                  have hac := actN_zero HZ.out
                  have HA := Lib.hid hac
                  have hl6 : Z.length ≤ 1000000 := by rw [HL.out]; omega
                  clear hti hac t
                  go_wp2_with fail
                  refine (active_st s hl6).mono ?_
                  rintro e w6 ⟨rfl, b6⟩
                  rw [HA.out]
                  have s6 := s.belowW b6
                  clear s b6 hl6
                  go_wp2_with fail
                  refine (len_st s6 HL.out).mono ?_
                  rintro e w7 ⟨rfl, rfl⟩
                  go_wp2_with fail
                  refine (known_any _).mono ?_
                  rintro e w8 ⟨rfl, b8⟩
                  have s8 := s6.belowW b8
                  go_wp2_with fail
                  go_ret
                  exact ⟨rfl, s8.below⟩
end Go.Proofs.Ythgajdaiklfjhaa
