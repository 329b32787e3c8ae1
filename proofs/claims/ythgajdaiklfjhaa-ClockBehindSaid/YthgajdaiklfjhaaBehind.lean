/-
  The walk of the law ClockBehind.
-/
import Derived.Test.YthgajdaiklfjhaaCollect
import Derived.Test.YthgajdaiklfjhaaLawsB
import Derived.Deep.QuietTactic
namespace Go.Proofs.Ythgajdaiklfjhaa
open Go.RowKit
attribute [local go_sem] Oper.semAt_some

theorem prefix_snocI {l p : List Int} {x : Int} (h : p <+: l) (hx : l[p.length]? = some x) : p ++ [x] <+: l := by
  obtain ⟨r, rfl⟩ := h
  rw [List.getElem?_append_right (Nat.le_refl _), Nat.sub_self] at hx
  cases r with
  | nil => simp at hx
  | cons y r => simp at hx; subst hx; exact ⟨r, by simp⟩
/-- The worlds behind both loops: the clock, both rows in their boxes. -/
structure BW (w W : World) (D b g : Nat) (L : Rg) (B1 : Nat) (a1 : Option Addr) (n1 c1 g1 o1 : Nat) (x1 : List Int) (B2 : Nat) (a2 : Option Addr) (n2 c2 g2 o2 : Nat) (x2 : List Int) (Ds : List Nat) : Prop where
  st : St w W D b g L
  m1 : Boxed W B1 23 (.slice a1 n1 c1)
  r1 : Row w W D b g a1 n1 c1 g1 o1 x1
  m2 : Boxed W B2 23 (.slice a2 n2 c2)
  r2 : Row w W D b g a2 n2 c2 g2 o2 x2
  ne : a1 ≠ none → a2 ≠ none → g1 ≠ g2
  mks : Marks w.heap.size W Ds
section
variable {w W W' : World} {D b g : Nat} {L : Rg} {B1 : Nat} {a1 : Option Addr} {n1 c1 g1 o1 : Nat} {x1 : List Int} {B2 : Nat} {a2 : Option Addr} {n2 c2 g2 o2 : Nat} {x2 : List Int} {Ds : List Nat}
theorem BW.below (h : BW w W D b g L B1 a1 n1 c1 g1 o1 x1 B2 a2 n2 c2 g2 o2 x2 Ds) (k : Below W.heap.size W W') : BW w W' D b g L B1 a1 n1 c1 g1 o1 x1 B2 a2 n2 c2 g2 o2 x2 Ds :=
  ⟨h.st.belowW k, boxed_below h.m1 k, h.r1.below k, boxed_below h.m2 k, h.r2.below k, h.ne, h.mks.below k⟩
theorem BW.step {Z : Nat} (h : BW w W D b g L B1 a1 n1 c1 g1 o1 x1 B2 a2 n2 c2 g2 o2 x2 Ds) (st : Step Z W W') (hb : b < Z) (hw : w.heap.size ≤ Z) (hD : ∀ D ∈ Ds, D < Z) : BW w W' D b g L B1 a1 n1 c1 g1 o1 x1 B2 a2 n2 c2 g2 o2 x2 Ds :=
  ⟨h.st.step st hb hw, boxed_step h.m1 st, h.r1.step st, boxed_step h.m2 st, h.r2.step st, h.ne, h.mks.stepD st hD⟩
theorem BW.tri (h : BW w W D b g L B1 a1 n1 c1 g1 o1 x1 B2 a2 n2 c2 g2 o2 x2 Ds) {g' : Nat} {L' : Rg} (s' : St w W' D b g' L') (t : Tri W W' D g b) (hg : g' = g ∨ W.heap.size ≤ g') : BW w W' D b g' L' B1 a1 n1 c1 g1 o1 x1 B2 a2 n2 c2 g2 o2 x2 Ds :=
  ⟨s', boxed_tri h.m1 t (h.st.neBox h.m1 (by decide) (by decide)), h.r1.tri t hg, boxed_tri h.m2 t (h.st.neBox h.m2 (by decide) (by decide)), h.r2.tri t hg, h.ne, h.st.marks h.mks t⟩
/-- The first row has got one more. -/
theorem BW.push1 (h : BW w W D b g L B1 a1 n1 c1 g1 o1 x1 B2 none n2 c2 g2 o2 x2 Ds) (hB : B1 ≠ B2) {ob : Obj} {w3 : World} {a3 : Option Addr} {n3 c3 g3 o3 : Nat} {x3 : List Int} (hm : Moved (W.alloc ob) w3 a1 g1 g3) (hr3 : RingAt w3 w.heap.size 3 a3 n3 c3 g3 o3 x3) (ha : a3 ≠ none) (hw : w.heap.size ≤ B1) :
    BW w (w3.setCell ⟨B1, 0, none⟩ (.slice a3 n3 c3)) D b g L B1 a3 n3 c3 g3 o3 x3 B2 none n2 c2 g2 o2 x2 Ds ∧ w3.cell? ⟨B1, 0, none⟩ = some (.slice a1 n1 c1) ∧ w3.frozen? ⟨B1, 0, none⟩ = false := by
  have h' := h.below (below_new W ob)
  have m1 := boxed_moved h'.m1 h'.r1 (by decide) hm
  have m2 := boxed_moved h'.m2 h'.r1 (by decide) hm
  obtain ⟨r3, s3⟩ := h'.r1.moved h'.st hr3 ha hm
  have mk := h'.mks.moved h'.r1 hm
  have on := only_set (only_refl w3 B1) 0 (.slice a3 n3 c3)
  have hne := s3.neBox m1 (by decide) (by decide)
  refine ⟨⟨s3.only on hne hw, m1.set _, ⟨r3.ring.only on (fun _ => r3.neBox m1 (by decide) ha), r3.ne⟩, boxed_only m2 on (fun e => hB e.symm), ⟨?_, fun h => absurd rfl h⟩, fun _ h => absurd rfl h, mk.set _ _⟩, m1.cell, m1.frozen⟩
  have h2 := h.r2.ring
  exact ⟨h2.len, h2.le, fun ad e => (by cases e), h2.non, fun h => absurd rfl h, fun j x hx => by
    have h3 := h2.non rfl
    have h4 := h2.le
    have h5 := h2.len
    have := (List.getElem?_eq_some_iff.1 hx).1
    omega⟩
/-- The second row has got one more. -/
theorem BW.push2 (h : BW w W D b g L B1 a1 n1 c1 g1 o1 x1 B2 a2 n2 c2 g2 o2 x2 Ds) (hB : B1 ≠ B2) {ob : Obj} {w3 : World} {a3 : Option Addr} {n3 c3 g3 o3 : Nat} {x3 : List Int} (hm : Moved (W.alloc ob) w3 a2 g2 g3) (hr3 : RingAt w3 w.heap.size 3 a3 n3 c3 g3 o3 x3) (ha : a3 ≠ none) (hw : w.heap.size ≤ B2) :
    BW w (w3.setCell ⟨B2, 0, none⟩ (.slice a3 n3 c3)) D b g L B1 a1 n1 c1 g1 o1 x1 B2 a3 n3 c3 g3 o3 x3 Ds ∧ w3.cell? ⟨B2, 0, none⟩ = some (.slice a2 n2 c2) ∧ w3.frozen? ⟨B2, 0, none⟩ = false := by
  have h' := h.below (below_new W ob)
  have m1 := boxed_moved h'.m1 h'.r2 (by decide) hm
  have m2 := boxed_moved h'.m2 h'.r2 (by decide) hm
  obtain ⟨r3, s3⟩ := h'.r2.moved h'.st hr3 ha hm
  have mk := h'.mks.moved h'.r2 hm
  have on := only_set (only_refl w3 B2) 0 (.slice a3 n3 c3)
  have hne := s3.neBox m2 (by decide) (by decide)
  have h1 : RingAt w3 w.heap.size 3 a1 n1 c1 g1 o1 x1 ∧ (a1 ≠ none → g1 ≠ g3) := by
    rcases hm with ⟨h4, h6, h5⟩ | ⟨h6, h5⟩
    · exact ⟨h'.r1.ring.only h5 (fun h0 => h.ne h0 h4), fun h0 => by rw [h6]; exact h.ne h0 h4⟩
    · exact ⟨h'.r1.ring.below h5, fun h0 => by have := (h'.r1.ring.lt h0).2; omega⟩
  have hr1 : Row w w3 D b g a1 n1 c1 g1 o1 x1 := ⟨h1.1, h.r1.ne⟩
  exact ⟨⟨s3.only on hne hw, boxed_only m1 on hB, ⟨hr1.ring.only on (fun h0 => hr1.neBox m2 (by decide) h0), hr1.ne⟩, m2.set _, ⟨r3.ring.only on (fun _ => r3.neBox m2 (by decide) ha), r3.ne⟩, fun h0 _ => h1.2 h0, mk.set _ _⟩, m2.cell, m2.frozen⟩
end
/-- Where it was found. -/
def atI (p k : Nat) : Int := if p < k then (p : Int) else -1
set_option maxRecDepth 100000 in
set_option maxHeartbeats 8000000 in
theorem behind_any (a : Option Addr) (len cap bo off : Nat) (V : Nat → Nat → Int) (w : World) (o : OpsI w a len bo off 2 V) (hlen : len ≤ 9223372036854775807) :
    Calls Try.prog 4 #[.slice a len cap] w fun e w' => e = .returned (.bool true) ∧ Below w.heap.size w w' := by
  obtain ⟨i0, hi, hz0, hz1, hz2⟩ := info_parts info3
  refine calls_of_wp_marks Try.func4 rfl ?_
  simp only [Try.ntmps4, List.size_toArray, List.length_cons, List.length_nil, Nat.reduceAdd, Nat.reduceSub, Array.replicate_succ, Array.replicate_zero, List.push_toArray, List.append_toArray, List.nil_append, List.cons_append]
  by_cases hbad : 60 < len
  · go_wp2_with fail
    refine (known_any w).mono ?_
    rintro e w' ⟨rfl, hb⟩
    go_wp2_with fail
    refine leaves_marks (B := w.heap.size) [] _ hb.size (marks_nil _ _) (fun w'' sh => ⟨_, results_tmp rfl _ _ _, rfl, hb.trans sh.below⟩)
  have d1 : decide ((60 : Int) < (len : Int)) = false := by simp; omega
  have d2 : decide (60 < len) = false := by simp; omega
  go_wp2_with fail
  refine (new_st (Below.refl _ w)).mono ?_
  rintro e w1 ⟨rfl, s, _⟩
  generalize w.heap.size + 1 = D at *
  clear d1 d2
  go_wp2_with fail
  go_loopw [21] (fun v wr => ∃ k : Nat, k ≤ len ∧ v = .int .i64 k ∧ ∃ (b g : Nat) (L : Rg), L.length ≤ k ∧ St w wr D b g L) (fun v _ => len - (intOf v).toNat)
  case atStart => exact ⟨0, by omega, rfl, _, _, [], by simp, s⟩
  case round =>
    clear s
    obtain ⟨k, hk, rfl, b, g, L, hLk, s⟩ := hrel
    by_cases hlt : k < len
    · have o' := o.below s.below
      have ck := o'.c0 hlt (by omega)
      have c1 := o'.cell k hlt 1 (by omega)
      have hkd : kdI (V k 1) := wf64 (o.i64 k hlt 1 (by omega)).1 (o.i64 k hlt 1 (by omega)).2
      obtain rfl := o.at_ (by omega)
      have hL6 : L.length ≤ 1000000 := by omega
      rcases Decidable.em (V k 0 = 1) with hk1 | hk1
      · have q1 : (V k 0 == 1) = true := by rw [hk1]; rfl
        obtain ⟨x, L', hx⟩ : ∃ x L', removeC L (V k 1) = (x, L') := ⟨_, _, rfl⟩
        have hl := len_removeC L (V k 1)
        rw [hx] at hl
        have HX := Lib.hid hx
        clear hx hk1
        go_wp2_with fail
        refine (remove_st s hkd HX.out).mono ?_
        rintro e w5 ⟨rfl, g5, hg5, s5, t5⟩
        clear hg5 t5 s
        go_wp2_with fail
        go_roundw
        case rel => exact ⟨k + 1, by omega, by go_num, b, g5, L', by omega, s5⟩
        case measure => simp [intOf]; omega
      · have q1 : (V k 0 == 1) = false := beq_eq_false_iff_ne.2 hk1
        clear hk1
        rcases Decidable.em (V k 0 = 2) with hk2 | hk2
        · have q2 : (V k 0 == 2) = true := by rw [hk2]; rfl
          obtain ⟨x, L', hx⟩ : ∃ x L', touchC L (V k 1) = (x, L') := ⟨_, _, rfl⟩
          have hl := len_touchC L (V k 1)
          rw [hx] at hl
          have HX := Lib.hid hx
          have HLL := Lib.hid hl
          clear hx hk2 hl
          go_wp2_with fail
          refine (touch_st s hkd HX.out).mono ?_
          rintro e w5 ⟨rfl, g5, hg5, s5, t5⟩
          clear hg5 t5 s
          go_wp2_with fail
          go_roundw
          case rel => exact ⟨k + 1, by omega, by go_num, b, g5, L', by have := HLL.out; omega, s5⟩
          case measure => simp [intOf]; omega
        · have q2 : (V k 0 == 2) = false := beq_eq_false_iff_ne.2 hk2
          clear hk2
          rcases Decidable.em (V k 0 = 3) with hk3 | hk3
          · have q3 : (V k 0 == 3) = true := by rw [hk3]; rfl
            obtain ⟨x, L', hx⟩ : ∃ x L', nextC L = (x, L') := ⟨_, _, rfl⟩
            have hl := len_nextC L
            rw [hx] at hl
            have HX := Lib.hid hx
            have HLL := Lib.hid hl
            clear hx hk3 hl
            go_wp2_with fail
            refine (next_st s hL6 HX.out).mono ?_
            rintro e w5 ⟨rfl, g5, hg5, s5, t5⟩
            clear hg5 t5 s
            go_wp2_with fail
            go_roundw
            case rel => exact ⟨k + 1, by omega, by go_num, b, g5, L', by have := HLL.out; omega, s5⟩
            case measure => simp [intOf]; omega
          · have q3 : (V k 0 == 3) = false := beq_eq_false_iff_ne.2 hk3
            obtain ⟨x, L', hx⟩ : ∃ x L', addC L (V k 1) = (x, L') := ⟨_, _, rfl⟩
            have hl := len_addC L (V k 1)
            rw [hx] at hl
            have HX := Lib.hid hx
            clear hx hk3
            go_wp2_with fail
            refine (add_st s hL6 hkd HX.out).mono ?_
            rintro e w5 ⟨rfl, g5, hg5, s5, t5⟩
            clear hg5 t5 s
            go_wp2_with fail
            go_roundw
            case rel => exact ⟨k + 1, by omega, by go_num, b, g5, L', by omega, s5⟩
            case measure => simp [intOf]; omega
    · obtain ⟨n, hn⟩ : ∃ n, L.length = n := ⟨_, rfl⟩
      have hn60 : n ≤ 60 := by omega
      have HN := Lib.hid hn
      have hkl : k = len := by omega
      subst hkl
      have bB := below_alloc (below_new wr (.cells #[.slice none 0 0] 23)) (.cells #[.slice none 0 0] 23)
      have mB := (Boxed.new wr 23 (.slice none 0 0)).alloc (.cells #[.slice none 0 0] 23)
      have mC := Boxed.new (wr.alloc (.cells #[.slice none 0 0] 23)) 23 (.slice none 0 0)
      rw [World.size_alloc] at mC
      have hBw : w.heap.size ≤ wr.heap.size := s.below.size
      have s1 : BW w ((wr.alloc (.cells #[.slice none 0 0] 23)).alloc (.cells #[.slice none 0 0] 23)) D b g L wr.heap.size none 0 0 0 0 [] (wr.heap.size + 1) none 0 0 0 0 [] [] :=
        ⟨s.belowW bB, mB, ⟨RingAt.nil _ _ _ _ _, fun h => absurd rfl h⟩, mC, ⟨RingAt.nil _ _ _ _ _, fun h => absurd rfl h⟩, fun h => absurd rfl h, marks_nil _ _⟩
      have heq := eq_fn36
      have HNDL := Lib.hid s.ok.nd
      clear hn hLk mB mC bB s
      go_wp2_with fail
      generalize (wr.alloc (.cells #[.slice none 0 0] 23)).alloc (.cells #[.slice none 0 0] 23) = W1 at *
      generalize hBB : wr.heap.size = B at *
      clear hBB
      refine (all_any (some ⟨D, 0, none⟩) W1).mono ?_
      rintro e WB ⟨rfl, rfl⟩
      go_wp2_with fail
      refine (all_any (some ⟨D, 0, none⟩) _).mono ?_
      rintro e WC ⟨rfl, rfl⟩
      have hX := Boxed.new (W1.alloc (.cells #[.pointer (some ⟨D, 0, none⟩)] 25)) 25 (.pointer (some ⟨D, 0, none⟩))
      rw [World.size_alloc] at hX
      have sM := s1.below (below_alloc (below_new W1 (.cells #[.pointer (some ⟨D, 0, none⟩)] 25)) (.cells #[.pointer (some ⟨D, 0, none⟩)] 25))
      clear s1
      go_wp2_with fail
      generalize (W1.alloc (.cells #[.pointer (some ⟨D, 0, none⟩)] 25)).alloc (.cells #[.pointer (some ⟨D, 0, none⟩)] 25) = WM at *
      have hah : Ahead WM B (fun k => k = B) := ⟨fun k hk => by rw [hk]; exact sM.m1.lt, sM.m1.lt, fun d o n c hd => by rw [sM.m1.cell] at hd; cases hd⟩
      have hL6 : L.length ≤ 1000000 := by rw [HN.out]; omega
      have hT := tells_st sM.st hL6 hX hah id (List.map_id _)
      have HT := Lib.hid hT
      have HAH := Lib.hid hah
      have hw0 := sM.st.below.size
      have hb3 := sM.st.ltb.2
      have hfl : (L.map Prod.fst).length = n := by rw [List.length_map, HN.out]
      have HFL := Lib.hid hfl
      clear hT hah hX hfl hL6
      refine wp_rangeS1 (α := Int) 64 7 (gf := 28) (lb := #[.pointer (some ⟨W1.heap.size + 1, 0, none⟩)]) rfl (fun _ _ => by kernel_rfl) HT.out HAH.out
        (fun pre W => ∃ ta tc gt tO, BW w W D b g L B ta pre.length tc gt tO pre (B + 1) none 0 0 0 0 [] [])
        (fun _ _ _ => False)
        (fun pre W W' h st => by obtain ⟨ta, tc, gt, tO, h⟩ := h; exact ⟨ta, tc, gt, tO, h.step st hb3 hw0 (fun D hD => by cases hD)⟩) (fun _ _ _ _ h _ => h) ⟨none, 0, 0, 0, sM⟩ ?assign ?body ?done ?stop
      case assign =>
        intro l x W K hK
        gi_wp2
        exact hK
      case stop =>
        rintro M c pre W hM hpre hx hk
        exact hx.elim
      case body =>
        rintro l pre x W hl ⟨ta, tc, gt, tO, s⟩ hlen
        rw [HFL.out] at hlen
        simp only [List.setIfInBounds_toArray, List.set_cons_zero, List.set_cons_succ]
        have cb := s.m1.cell
        have hA : (W.alloc (.cells #[.int .i64 x] 3)).cell? ⟨W.heap.size, 0, none⟩ = some (.int .i64 x) := World.cell?_alloc_new W _ _ 0
        have HA := Lib.hid hA
        have HR := Lib.hid (s.r1.ring.below (below_new W (.cells #[.int .i64 x] 3)))
        have HB2 := Lib.hid (s.st.belowW (below_new W (.cells #[.int .i64 x] 3))).below.size
        have hp6 : pre.length ≤ 1000000 := by omega
        clear hA
        gi_wp2_with (gi_at_builtin; refine wpListIn_append_ring _ rfl (.tmp 65) (.tmp 67) 23 rfl Try.underlying23 hi hz0 hz1 hz2 rfl HR.out rfl rfl HA.out hp6 HB2.out ?_)
        intro a3 c3 g3 o3 w3 hr3 ha3 hmv
        obtain ⟨s3, cb3, fb3⟩ := s.push1 (by omega) hmv hr3 ha3 hBw
        have HK := Lib.hid (kpS_push s.m1 s.r1.ring hmv hr3)
        have HK2 := Lib.hid (keeps_push (B0 := WM.heap.size) (Bx := B) s.r1.ring hmv (.slice a3 (pre.length + 1) c3))
        have HS := Lib.hid s3
        clear s s3 hr3 hmv cb HR HA HB2
        gi_wp2
        exact ⟨HK2.out, HK.out, a3, c3, g3, o3, by rw [List.length_append]; exact HS.out⟩
      case done =>
        rintro M W hM ⟨ta, tc, gt, tO, s⟩ hk
        rw [HFL.out] at s
        have mk1 : Marks w.heap.size W [M] := ⟨fun D' h' => by obtain rfl := List.mem_singleton.1 h'; exact ⟨by omega, hk⟩, by simp⟩
        have s2 : BW w W D b g L B ta n tc gt tO (L.map Prod.fst) (B + 1) none 0 0 0 0 [] [M] := ⟨s.st, s.m1, s.r1, s.m2, s.r2, s.ne, mk1⟩
        have hL6 : L.length ≤ 1000000 := by rw [HN.out]; omega
        clear s mk1 hk
        obtain ⟨x, L', hx⟩ : ∃ x L', nextC L = (x, L') := ⟨_, _, rfl⟩
        have hl' : L'.length = n := by have := len_nextC L; rw [hx, HN.out] at this; exact this
        have HX := Lib.hid hx
        have HL' := Lib.hid hl'
        clear hx hl'
        go_wp2_with fail
        refine (next_st s2.st hL6 HX.out).mono ?_
        rintro e w6 ⟨rfl, g6, hg6, s6, t6⟩
        have s7 := s2.tri s6 t6 hg6
        clear hg6 t6 s6 s2 hL6
        obtain ⟨tf, tb, htv⟩ : ∃ tf tb, toldV x = .tuple #[.int .i64 tf, .bool tb] := by
          cases x with
          | none => exact ⟨_, _, rfl⟩
          | some f => exact ⟨_, _, rfl⟩
        rw [htv]
        have HTV := Lib.hid htv
        clear htv
        go_wp2_with fail
        refine (all_any (some ⟨D, 0, none⟩) w6).mono ?_
        rintro e WB ⟨rfl, rfl⟩
        go_wp2_with fail
        refine (all_any (some ⟨D, 0, none⟩) _).mono ?_
        rintro e WC ⟨rfl, rfl⟩
        have hX := Boxed.new (w6.alloc (.cells #[.pointer (some ⟨D, 0, none⟩)] 25)) 25 (.pointer (some ⟨D, 0, none⟩))
        rw [World.size_alloc] at hX
        have sM := s7.below (below_alloc (below_new w6 (.cells #[.pointer (some ⟨D, 0, none⟩)] 25)) (.cells #[.pointer (some ⟨D, 0, none⟩)] 25))
        clear s7
        go_wp2_with fail
        generalize (w6.alloc (.cells #[.pointer (some ⟨D, 0, none⟩)] 25)).alloc (.cells #[.pointer (some ⟨D, 0, none⟩)] 25) = WN at *
        have hah : Ahead WN (B + 1) (fun k => k = B + 1) := ⟨fun k hk => by rw [hk]; exact sM.m2.lt, sM.m2.lt, fun d o n c hd => by rw [sM.m2.cell] at hd; cases hd⟩
        have hT := tells_st sM.st (by rw [HL'.out]; omega) hX hah id (List.map_id _)
        have HT2 := Lib.hid hT
        have HAH2 := Lib.hid hah
        have hw2 := sM.st.below.size
        have hb2 := sM.st.ltb.2
        have hfl : (L'.map Prod.fst).length = n := by rw [List.length_map, HL'.out]
        have HFL2 := Lib.hid hfl
        have hD2 : ∀ D ∈ [M], D < WN.heap.size := fun D hD => sM.mks.lt hD
        have HD2 := Lib.hid hD2
        clear hT hah hX hfl hD2
        refine wp_rangeS1 (α := Int) 79 10 (gf := 28) (lb := #[.pointer (some ⟨w6.heap.size + 1, 0, none⟩)]) rfl (fun _ _ => by kernel_rfl) HT2.out HAH2.out
          (fun pre W => ∃ tb tc2 gt2 tO2, BW w W D b g6 L' B ta n tc gt tO (L.map Prod.fst) (B + 1) tb pre.length tc2 gt2 tO2 pre [M])
          (fun _ _ _ => False)
          (fun pre W W' h st => by obtain ⟨tb, tc2, gt2, tO2, h⟩ := h; exact ⟨tb, tc2, gt2, tO2, h.step st hb2 hw2 HD2.out⟩) (fun _ _ _ _ h _ => h) ⟨none, 0, 0, 0, sM⟩ ?assign2 ?body2 ?done2 ?stop2
        case assign2 =>
          intro l x W K hK
          gi_wp2
          exact hK
        case stop2 =>
          rintro M c pre W hM hpre hx hk
          exact hx.elim
        case body2 =>
          rintro l pre x W hl ⟨tb2, tc2, gt2, tO2, s⟩ hlen
          rw [HFL2.out] at hlen
          simp only [List.setIfInBounds_toArray, List.set_cons_zero, List.set_cons_succ]
          have cb := s.m2.cell
          have hA : (W.alloc (.cells #[.int .i64 x] 3)).cell? ⟨W.heap.size, 0, none⟩ = some (.int .i64 x) := World.cell?_alloc_new W _ _ 0
          have HA := Lib.hid hA
          have HR := Lib.hid (s.r2.ring.below (below_new W (.cells #[.int .i64 x] 3)))
          have HB2 := Lib.hid (s.st.belowW (below_new W (.cells #[.int .i64 x] 3))).below.size
          have hp6 : pre.length ≤ 1000000 := by omega
          clear hA
          gi_wp2_with (gi_at_builtin; refine wpListIn_append_ring _ rfl (.tmp 80) (.tmp 82) 23 rfl Try.underlying23 hi hz0 hz1 hz2 rfl HR.out rfl rfl HA.out hp6 HB2.out ?_)
          intro a3 c3 g3 o3 w3 hr3 ha3 hmv
          obtain ⟨s3, cb3, fb3⟩ := s.push2 (by omega) hmv hr3 ha3 (by omega)
          have HK := Lib.hid (kpS_push s.m2 s.r2.ring hmv hr3)
          have HK2 := Lib.hid (keeps_push (B0 := WN.heap.size) (Bx := B + 1) s.r2.ring hmv (.slice a3 (pre.length + 1) c3))
          have HS := Lib.hid s3
          clear s s3 hr3 hmv cb HR HA HB2
          gi_wp2
          exact ⟨HK2.out, HK.out, a3, c3, g3, o3, by rw [List.length_append]; exact HS.out⟩
        case done2 =>
          rintro M2 W2 hM2 ⟨tb2, tc2, gt2, tO2, s⟩ hk2
          rw [HFL2.out] at s
          have mk2 := s.mks.push' sM.mks hw2 hM2 hk2
          have s2 : BW w W2 D b g6 L' B ta n tc gt tO (L.map Prod.fst) (B + 1) tb2 n tc2 gt2 tO2 (L'.map Prod.fst) [M2, M] := ⟨s.st, s.m1, s.r1, s.m2, s.r2, s.ne, mk2⟩
          have cA := s2.m1.cell
          have cB := s2.m2.cell
          clear s mk2 hk2 sM
          by_cases hn0 : n = 0
          · subst hn0
            have hLe : L = [] := List.eq_nil_of_length_eq_zero HN.out
            have hx : x = none := by have := HX.out; rw [hLe] at this; exact (congrArg Prod.fst this).symm
            subst hx
            have htb : tf = 0 ∧ tb = false := by have := HTV.out; unfold toldV at this; cases this; exact ⟨rfl, rfl⟩
            obtain ⟨rfl, rfl⟩ := htb
            clear hLe
            go_wp2_with fail
            refine (known_any _).mono ?_
            rintro e w8 ⟨rfl, b8⟩
            have s8 := s2.below b8
            go_wp2_with fail
            refine leaves_marks (B := w.heap.size) [M2, M] _ s8.st.below.size s8.mks (fun w'' sh => ⟨_, results_tmp rfl _ _ _, rfl, s8.st.below.trans sh.below⟩)
          · obtain ⟨m, rfl⟩ : ∃ m, n = m + 1 := ⟨n - 1, by omega⟩
            obtain ⟨f, L'', p, h1, h2, hp, hlast, hrot⟩ := next_behind (L := L) (by intro e; have := HN.out; rw [e] at this; cases this)
            have h3 := HX.out
            rw [h1] at h3
            have h4 : x = some f := (congrArg Prod.fst h3).symm
            have h5 : L'' = L' := congrArg Prod.snd h3
            subst h4 h5
            have htb : tf = f ∧ tb = true := by have := HTV.out; unfold toldV at this; cases this; exact ⟨rfl, rfl⟩
            obtain ⟨rfl, rfl⟩ := htb
            rw [HN.out] at hp hlast hrot
            have hnd := HNDL.out
            have clast := s2.r2.ring.cell m tf (by simpa using hlast)
            obtain rfl := s2.r1.ring.pos (by have := s2.r1.ring.le; omega)
            obtain rfl := s2.r2.ring.pos (by have := s2.r2.ring.le; omega)
            have hle1 := s2.r1.ring.le
            have hle2 := s2.r2.ring.le
            have HROT := Lib.hid hrot
            have HND := Lib.hid hnd
            clear hn0 h1 h2 h3 hlast hrot hnd
            go_wp2_with fail
            clear cA cB clast
            have hm61 : m < 60 := by omega
            go_loopw [11, 109] (fun av v wr => ∃ k : Nat, k ≤ m + 1 ∧ v = .int .i64 k ∧ av = .int .i64 (atI p k) ∧ ∃ d, wr = W2.drewN d) (fun _ v _ => m + 1 - (intOf v).toNat)
            case atStart => exact ⟨0, by omega, rfl, by simp [atI], 0, rfl⟩
            case round =>
              obtain ⟨k, hk, rfl, rfl, d, rfl⟩ := hrel
              have s3 := s2.below (below_drewN (Below.refl _ _) d)
              by_cases hkm : k < m + 1
              · obtain ⟨y, hy, hcy⟩ := s2.r1.ring.get hkm
                obtain ⟨z, hz, hcz⟩ := s2.r2.ring.get (j := 0) (by omega)
                rw [Nat.add_zero] at hcz
                have hz2 : (L.map Prod.fst)[p]? = some z := by have := HROT.out 0 (by omega); rw [Nat.add_zero, Nat.mod_eq_of_lt hp] at this; rw [← this]; exact hz
                have hyz : y = z ↔ k = p := by
                  constructor
                  · rintro rfl
                    exact (List.getElem?_inj (List.getElem?_eq_some_iff.1 hy).1 HND.out).1 (hy.trans hz2.symm)
                  · rintro rfl
                    exact Option.some.inj (hy.symm.trans hz2)
                have cA := s2.m1.cell
                have cB := s2.m2.cell
                have hk0 : (0 : Int) ≤ (k : Int) := by omega
                have hk1 : (k : Int) < ((m + 1 : Nat) : Int) := by omega
                have hk2 : (k : Int) < (m : Int) + 1 := by omega
                have hm0 : (0 : Int) < (m : Int) + 1 := by omega
                clear hy hz hz2
                by_cases hkp : k = p
                · have q : (y == z) = true := by rw [hyz.2 hkp]; simp
                  have HA := Lib.hid (show atI p (k + 1) = (k : Int) by unfold atI; rw [if_pos (by omega), hkp])
                  clear hyz hkp
                  go_wp2_with fail
                  go_quiet (fail)
                  go_wp2_with fail
                  go_roundw
                  case rel => exact ⟨k + 1, by omega, by go_num, by rw [HA.out], _, rfl⟩
                  case measure => simp [intOf]; omega
                · have q : (y == z) = false := beq_eq_false_iff_ne.2 (fun e => hkp (hyz.1 e))
                  have HA := Lib.hid (show atI p (k + 1) = atI p k by unfold atI; split <;> split <;> first | rfl | omega)
                  clear hyz hkp
                  go_wp2_with fail
                  go_quiet (fail)
                  go_wp2_with fail
                  go_roundw
                  case rel => exact ⟨k + 1, by omega, by go_num, by rw [HA.out], _, rfl⟩
                  case measure => simp [intOf]; omega
              · have hkm2 : k = m + 1 := by omega
                subst hkm2
                have hat : atI p (m + 1) = (p : Int) := by unfold atI; rw [if_pos hp]
                rw [hat]
                have cB := s2.m2.cell
                have cA := s2.m1.cell
                clear hat
                go_wp2_with fail
                clear cA cB s3
                go_loopw [124] (fun v wr => ∃ k : Nat, k ≤ m + 1 ∧ v = .int .i64 k ∧ ∃ d, wr = W2.drewN d) (fun v _ => m + 1 - (intOf v).toNat)
                case atStart => exact ⟨0, by omega, rfl, d, rfl⟩
                case round =>
                  obtain ⟨k, hk', rfl, d2, rfl⟩ := hrel
                  have s3 := s2.below (below_drewN (Below.refl _ _) d2)
                  by_cases hkm' : k < m + 1
                  · obtain ⟨q, hq⟩ : ∃ q, q = (p + k) % (m + 1) := ⟨_, rfl⟩
                    have hqm : q < m + 1 := by rw [hq]; exact Nat.mod_lt _ (by omega)
                    obtain ⟨y, hy, hcy⟩ := s2.r1.ring.get hqm
                    obtain ⟨z, hz, hcz⟩ := s2.r2.ring.get hkm'
                    have hyz : y = z := by
                      have := HROT.out k hkm'
                      rw [← hq] at this
                      exact Option.some.inj (hy.symm.trans (this.symm.trans hz))
                    subst hyz
                    have cA := s2.m1.cell
                    have cB := s2.m2.cell
                    have hk0 : (0 : Int) ≤ (k : Int) := by omega
                    have hk1 : (k : Int) < ((m + 1 : Nat) : Int) := by omega
                    have hk2 : (k : Int) < (m : Int) + 1 := by omega
                    have hq0 : (0 : Int) ≤ (q : Int) := by omega
                    have hq1 : (q : Int) < ((m + 1 : Nat) : Int) := by omega
                    have hq2 : (q : Int) < (m : Int) + 1 := by omega
                    have hp0 : decide ((p : Int) < 0) = false := by simp
                    have hw : IntKind.i64.wrap ((p : Int) + (k : Int)) = (p : Int) + (k : Int) := by rw [IntKind.wrap_i64]; omega
                    have hmod2 : ((p : Int) + (k : Int)) % ((m : Int) + 1) = (q : Int) := by rw [hq, Int.natCast_emod, Int.natCast_add, Int.natCast_add]; rfl
                    have hmod : ((p : Int) + (k : Int)).tmod ((m : Int) + 1) = (q : Int) := by
                      rw [Int.tmod_eq_emod_of_nonneg (by omega), hmod2]
                    have HQ := Lib.hid hq
                    clear hy hz hq
                    go_wp2_with fail
                    go_quiet (fail)
                    go_wp2_with fail
                    go_roundw
                    case rel => exact ⟨k + 1, by omega, by go_num, _, rfl⟩
                    case measure => simp [intOf]; omega
                  · have hkm3 : k = m + 1 := by omega
                    subst hkm3
                    go_wp2_with fail
                    refine (known_any _).mono ?_
                    rintro e w8 ⟨rfl, b8⟩
                    have s8 := s3.below b8
                    go_wp2_with fail
                    refine leaves_marks (B := w.heap.size) [M2, M] _ s8.st.below.size s8.mks (fun w'' sh => ⟨_, results_tmp rfl _ _ _, rfl, s8.st.below.trans sh.below⟩)
end Go.Proofs.Ythgajdaiklfjhaa
