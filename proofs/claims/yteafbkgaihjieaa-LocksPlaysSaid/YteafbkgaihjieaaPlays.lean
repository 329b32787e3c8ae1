/-
  The walk of the law LocksPlays.
-/
import Derived.Test.YteafbkgaihjieaaRef
import Derived.Deep.RegionHeld3
namespace Go.Proofs.Yteafbkgaihjieaa
open Go.RowKit

/-- A call, as the law has it in a block of its own. -/
def boxF (K W L : Int) (i : Nat) : Value := if i = 0 then .int .i64 K else if i = 1 then .int .i64 W else .int .i64 L
theorem box_new (w : World) (K W L : Int) : (w.alloc (.cells #[.int .i64 K, .int .i64 W, .int .i64 L] 27)).rowIs w.heap.size 27 3 (boxF K W L) :=
  World.rowIs_alloc w #[.int .i64 K, .int .i64 W, .int .i64 L] 27 (boxF K W L) (fun i hi => by
    rcases (show i = 0 ∨ i = 1 ∨ i = 2 by simp at hi; omega) with rfl | rfl | rfl <;> rfl)
theorem box1 {w : World} {Q : Nat} {K W L : Int} (r : w.rowIs Q 27 3 (boxF K W L)) : w.cell? ⟨Q, 1, none⟩ = some (.int .i64 W) := r.cell (i := 1) (by omega)
theorem box2 {w : World} {Q : Nat} {K W L : Int} (r : w.rowIs Q 27 3 (boxF K W L)) : w.cell? ⟨Q, 2, none⟩ = some (.int .i64 L) := r.cell (i := 2) (by omega)
section
variable {w0 w w' : World} {b n R c g : Nat} {h : Hold} {l : L2} {a : Option Addr}
theorem PSt.neQ (s : PSt w0 w b n h R l a c g) {Q : Nat} {f : Nat → Value} (r : w.rowIs Q 27 3 f) : Q ≠ b ∧ Q ≠ R ∧ (a ≠ none → g ≠ Q) :=
  ⟨rowIs_ne r s.pb.st.tab.row (by decide), rowIs_ne r s.pb.row (by decide), s.own.ne r (by decide)⟩
/-- A copy goes on, the old one is anything. -/
theorem PSt.copyTo (s : PSt w0 w b n h R l a c g) {b' : Nat} {h' : Hold} (t : Tab w b' n h') (hb : w0.heap.size ≤ b') : PSt w0 w b' n h' R l a c g :=
  ⟨⟨⟨t, s.pb.st.below, hb⟩, s.pb.row, s.pb.ownR⟩, s.own⟩
theorem PSt.touch (s : PSt w0 w b n h R l a c g) {a2 : Option Addr} {m2 c2 g2 base : Nat} {xs : List Value} (o : OwnAt w base 3 1 a2 m2 c2 g2 xs) (hk : Below w0.heap.size w0 w') (hs : w.heap.size ≤ w'.heap.size)
    (hq : ∀ q, q < w.heap.size → (a2 ≠ none → q ≠ g2) → w'.heap[q]? = w.heap[q]?) : PSt w0 w' b n h R l a c g :=
  ⟨s.pb.of_blocks hk (hq b s.pb.st.tab.lt (fun h2 e => o.ne s.pb.st.tab.row (by decide) h2 e.symm)) (hq R s.pb.row.lt (fun h2 e => o.ne s.pb.row (by decide) h2 e.symm)),
    s.own.of_block hs (fun ha => hq g (by
      cases a with
      | none => exact absurd rfl ha
      | some ad => exact (s.own.blk ad rfl).2.2) (fun h2 e => s.own.ne_own o (by decide) ha h2 e))⟩
end

set_option maxRecDepth 100000 in
set_option maxHeartbeats 8000000 in
theorem plays_any (n : Int) (a : Option Addr) (len cap bo off : Nat) (K W L : Nat → Int) (w : World) (o : OpsAt w a len bo off K W L) (hlen : len ≤ 9223372036854775807) :
    Calls Try.prog 7 #[.int .i64 n, .slice a len cap] w fun e w' => e = .returned (.bool true) ∧ Below w.heap.size w w' := by
  by_cases h200 : 200 < len
  · go_enter Try.func7, Try.ntmps7
    go_wp2_with fail
    refine (known_any w).mono ?_
    rintro e w' ⟨rfl, hb⟩
    go_wp2_with fail
    go_ret
    exact ⟨rfl, hb⟩
  have d1 : decide ((200 : Int) < (len : Int)) = false := by simp; omega
  have d3 : decide (200 < len) = false := by simp; omega
  go_enter Try.func7, Try.ntmps7
  go_wp2_with fail
  clear d1 d3
  refine (new_st (Below.refl _ w) n rfl).mono ?_
  rintro e w1 ⟨rfl, s1⟩
  have hB0 : w.heap.size = w.heap.size := rfl
  go_wp2_with fail
  refine (ref_new n w1).mono ?_
  rintro e w2 ⟨rfl, rfl⟩
  have hr : (w1.alloc (.cells #[.int .i64 (clampN n : Int), .slice none 0 0] 47)).rowIs w1.heap.size 47 2 (fun i => if i = 0 then .int .i64 (clampN n : Int) else .slice none 0 0) :=
    World.rowIs_alloc w1 #[.int .i64 (clampN n : Int), .slice none 0 0] 47 _ (fun i hi => by
      rcases (show i = 0 ∨ i = 1 by simp at hi; omega) with rfl | rfl <;> rfl)
  have s2 : PSt w (w1.alloc (.cells #[.int .i64 (clampN n : Int), .slice none 0 0] 47)) w.heap.size (clampN n) free w1.heap.size [] none 0 0 :=
    ⟨⟨⟨s1.tab.below (below_new _ _), below_alloc s1.below _, s1.own⟩, hr, s1.below.size⟩, ⟨World.ownsRow_nil _ _ _ _, fun h => absurd h (Nat.lt_irrefl _), fun b h => by cases h⟩⟩
  have hN := clampN_le n
  have r2 := rl_new (clampN n)
  generalize w1.alloc (.cells #[.int .i64 (clampN n : Int), .slice none 0 0] 47) = w2 at *
  generalize w1.heap.size = R at *
  clear hr s1 hB0
  have c0 := s2.pb.c0
  generalize clampN n = N at *
  go_wp2_with fail
  go_quiet ((go_at_call 13; refine Calls.quiet_of_same ((locks_any _ _ _ _ (s2.below (below_drewN (Below.refl _ _) _)).pb.st.tab).mono fun _ _ ⟨he, hw⟩ => ⟨he, hw.symm⟩)))
  have s3 := s2.below (below_drewN (Below.refl _ _) nq)
  generalize w2.drewN nq = w3 at *
  clear s2 c0
  go_wp2_with fail
  generalize w.heap.size = B at s3
  go_loopw [5, 36] (fun d i wr => ∃ (k : Nat) (b : Nat) (h : Hold) (l : L2) (a' : Option Addr) (c g : Nat), k ≤ len ∧ i = .int .i64 k ∧ d = .pointer (some ⟨b, 0, none⟩) ∧ PSt w wr b N h R l a' c g ∧ RL N h l ∧ l.length ≤ k) (fun _ i _ => len - (intOf i).toNat)
  case atStart => exact ⟨0, B, free, [], none, 0, 0, Nat.zero_le _, rfl, rfl, s3, r2, Nat.le_refl _⟩
  case round =>
    clear s3 r2
    obtain ⟨k, b, h, l, a', c, g, hk, rfl, rfl, s, r, hl⟩ := hrel
    by_cases hlt : k < len
    · have o' := o.below s.pb.st.below
      have ck := o'.ck k hlt
      have cw := o'.cw k hlt
      have cl := o'.cl k hlt
      have hwho := o'.wle k hlt
      obtain rfl := o.at_ (by omega)
      have sn := s.below (below_new wr (.cells #[.int .i64 (K k), .int .i64 (W k), .int .i64 (L k)] 27))
      have qn := box_new wr (K k) (W k) (L k)
      have hQ : w.heap.size ≤ wr.heap.size := s.pb.st.below.size
      rcases Decidable.em (K k = 0) with hk0 | hk0
      case' inl =>
        have q0 : (K k == 0) = true := by rw [hk0]; rfl
        have q1 : (K k == 1) = false := by rw [hk0]; rfl
        have q2 : (K k == 2) = false := by rw [hk0]; rfl
        clear hk0
        go_wp2_with fail
        generalize wr.heap.size = Q at *
        generalize wr.alloc (.cells #[.int .i64 (K k), .int .i64 (W k), .int .i64 (L k)] 27) = W1 at *
        have d1 := box1 qn
        have d2 := box2 qn
        refine (sn.try1 (W k) (L k) hwho).mono ?_
        rintro e W2 ⟨rfl, s4, o4⟩
        have q4 := rowIs_only qn o4 (sn.neQ qn).1
        clear d1 d2
        have d1 := box1 q4
        have d2 := box2 q4
        go_wp2_with fail
        refine (ref_try s4 r sn.pb.st.tab.ok (by omega) (W k) (L k) hwho).mono ?_
        rintro e W3 ⟨rfl, ⟨l7, a7, c7, g7, s7, r7, hl7⟩, hf⟩
        have q7 := q4.of_block (hf Q q4.lt (s4.neQ q4).2.1 (s4.neQ q4).2.2)
        clear d1 d2 hf
        have d1 := box1 q7
        have d2 := box2 q7
        have hl8 : l7.length ≤ k + 1 := by omega
        go_wp2_with fail
        generalize (tryF N h (W k) (L k)).2.2 = h7 at *
      case' inr =>
        have q0 : (K k == 0) = false := beq_eq_false_iff_ne.2 hk0
        clear hk0
        rcases Decidable.em (K k = 1) with hk1 | hk1
        case' inl =>
          have q1 : (K k == 1) = true := by rw [hk1]; rfl
          have q2 : (K k == 2) = false := by rw [hk1]; rfl
          clear hk1
          go_wp2_with fail
          generalize wr.heap.size = Q at *
          generalize wr.alloc (.cells #[.int .i64 (K k), .int .i64 (W k), .int .i64 (L k)] 27) = W1 at *
          have sd := sn.below (Below.refl W1.heap.size W1).drew
          have d1 := box1 qn
          have d2 := box2 qn
          go_region_held3 (fun w' => w'.cell? ⟨Q, 1, none⟩ = some (.int .i64 (W k)) ∧ w'.cell? ⟨Q, 2, none⟩ = some (.int .i64 (L k)))
            (first | exact ⟨box1 q7, box2 q7⟩ | exact ⟨box1 q4, box2 q4⟩ | go_keep)
            (first
              | (go_at_call 11; refine (sd.free1 (W k) (L k) hwho).mono ?_; rintro e W2 ⟨rfl, s4, o4⟩; have q4 := rowIs_only (w := W1.drew) qn o4 (sn.neQ qn).1)
              | (go_at_call 20; refine (ref_free s4 r sn.pb.st.tab.ok (by omega) (W k) (L k) hwho).mono ?_; rintro e W3 ⟨rfl, ⟨l7, a7, c7, g7, s7, r7, hl7⟩, hf⟩; have q7 := q4.of_block (hf Q q4.lt (s4.neQ q4).2.1 (s4.neQ q4).2.2)))
          clear d1 d2 hf sd
          have d1 := box1 q7
          have d2 := box2 q7
          have hl8 : l7.length ≤ k + 1 := by omega
          go_wp2_with fail
          generalize (freeF N h (W k) (L k)).2 = h7 at *
        case' inr =>
          have q1 : (K k == 1) = false := beq_eq_false_iff_ne.2 hk1
          clear hk1
          rcases Decidable.em (K k = 2) with hk2 | hk2
          case' inl =>
            have q2 : (K k == 2) = true := by rw [hk2]; rfl
            clear hk2
            go_wp2_with fail
            generalize wr.heap.size = Q at *
            generalize wr.alloc (.cells #[.int .i64 (K k), .int .i64 (W k), .int .i64 (L k)] 27) = W1 at *
            refine (copy_any b N h W1 sn.pb.st.tab).mono ?_
            rintro e W2 ⟨rfl, t2, b2⟩
            have s4 := sn.below b2
            have q4 := rowIs_below qn b2
            have hltb := sn.pb.st.tab.lt
            have hb2 : w.heap.size ≤ W1.heap.size := sn.pb.st.below.size
            generalize W1.heap.size = b7 at *
            have c0 := s4.pb.c0
            go_wp2_with fail
            go_loopw [96] (fun i wr => ∃ (j : Nat) (hx : Hold), j ≤ N ∧ i = .int .i64 j ∧ PSt w wr b N hx R l a' c g ∧ Tab wr b7 N h ∧ wr.rowIs Q 27 3 (boxF (K k) (W k) (L k))) (fun i _ => N - (intOf i).toNat)
            case atStart => exact ⟨0, h, Nat.zero_le _, rfl, s4, t2, q4⟩
            case' round =>
              clear s4 q4 c0 t2
              obtain ⟨j, hx, hj, rfl, s4, t2, q4⟩ := hrel
              rcases Decidable.em (j < N) with hjn | hjn
              case inl =>
                have eh : holderF N hx (j : Int) = hx j := holder_in hjn
                have hle := (s4.pb.st.tab.ok j).2
                have EH := Lib.hid eh; clear eh
                go_wp2_with fail
                refine (holder_any b N hx j _ s4.pb.st.tab).mono ?_
                rintro e w' ⟨rfl, rfl⟩
                rw [EH.out]
                go_wp2_with fail
                refine (s4.free1 (hx j) (j : Int) hle).mono ?_
                rintro e W3 ⟨rfl, s5, o5⟩
                have t5 := t2.only_other o5 (by omega)
                have q5 := rowIs_only q4 o5 (s4.neQ q4).1
                go_wp2_with fail
                go_roundw
                case rel => exact ⟨j + 1, _, by omega, by go_num, s5, t5, q5⟩
                case measure => simp [intOf]; omega
              case' inr =>
                have s7 := s4.copyTo t2 hb2
                have q7 := q4
                have l7 := l
                have r7 := r
                have hl8 : l.length ≤ k + 1 := by omega
                have d1 := box1 q7
                have d2 := box2 q7
                clear s4 hltb hb2 t2 q4 sn qn r s
                obtain ⟨h7, rfl⟩ : ∃ h7 : Hold, h7 = h := ⟨_, rfl⟩
                go_wp2_with fail
          case' inr =>
            have q2 : (K k == 2) = false := beq_eq_false_iff_ne.2 hk2
            clear hk2
            go_wp2_with fail
            generalize wr.heap.size = Q at *
            generalize wr.alloc (.cells #[.int .i64 (K k), .int .i64 (W k), .int .i64 (L k)] 27) = W1 at *
            have d1 := box1 qn
            have d2 := box2 qn
            have s7 := sn
            have q7 := qn
            have r7 := r
            have hl8 : l.length ≤ k + 1 := by omega
            clear sn qn r s
            obtain ⟨h7, rfl⟩ : ∃ h7 : Hold, h7 = h := ⟨_, rfl⟩
      all_goals
        have ok7 := s7.pb.st.tab.ok
        have sd := s7.below (Below.refl _ _).drew
        have qd := rowIs_below q7 (Below.refl _ _).drew
        go_region_held3 (fun w' => w'.cell? ⟨Q, 1, none⟩ = some (.int .i64 (W k)) ∧ w'.cell? ⟨Q, 2, none⟩ = some (.int .i64 (L k)))
          (first | exact ⟨box1 q9, box2 q9⟩ | exact ⟨box1 q8, box2 q8⟩ | go_keep)
          (first
            | (go_at_call 17; refine (held_any _ _ _ (W k) _ sd.pb.st.tab).mono ?_; rintro e W8 ⟨v8, rfl, hown8, hb8⟩; obtain ⟨a8, c8, g8, rfl, oa8⟩ := own_at hown8; have q8 := rowIs_below qd hb8)
            | (go_at_call 21; refine (ref_held (sd.below hb8) r7 ok7 (W k)).mono ?_; rintro e W9 ⟨v9, rfl, hown9, hb9⟩; obtain ⟨a9, c9, g9, rfl, oa9⟩ := own_at hown9; have q9 := rowIs_below q8 hb9))
        have s9 := (sd.below hb8).below hb9
        have ob8 := oa8.below hb9
        have hg8 : a8 ≠ none → g8 < W8.heap.size := fun ha => by
          cases a8 with
          | none => exact absurd rfl ha
          | some ad => exact (oa8.blk ad rfl).2.2
        have hgw : a8 ≠ none → w.heap.size ≤ g8 := fun ha => by
          cases a8 with
          | none => exact absurd rfl ha
          | some ad => exact Nat.le_trans sd.pb.st.below.size (oa8.blk ad rfl).2.1
        have hg9 : a9 ≠ none → W8.heap.size ≤ g9 := fun ha => by
          cases a9 with
          | none => exact absurd rfl ha
          | some ad => exact (oa9.blk ad rfl).2.1
        have hw8 : Below w.heap.size w W9 := s9.pb.st.below
        generalize heldF h7 (W k) N = F at *
        obtain ⟨m, hm⟩ : ∃ m, F.length = m := ⟨_, rfl⟩
        rw [hm] at ob8 oa9 ⊢
        have HM := Lib.hid hm
        have d2 := box2 q9
        have hle8 := ob8.le
        unfold maxLen at hle8
        clear hm oa8 hown8 hown9 qd q7 q8 s7 sd hb8 hb9
        go_wp2_with fail
        go_quiet ((first
          | (go_at_call 14; refine Calls.quiet_of_same ((holder_any _ _ _ _ _ (s9.below (below_drewN (Below.refl _ _) _)).pb.st.tab).mono fun _ _ ⟨he, hw⟩ => ⟨he, hw.symm⟩))
          | (go_at_call 22; refine Calls.quiet_of_same ((ref_holder (s9.below (below_drewN (Below.refl _ _) _)) r7 ok7 _).mono fun _ _ ⟨he, hw⟩ => ⟨he, hw.symm⟩))))
        have sA := s9.below (below_drewN (Below.refl _ _) nq)
        have oA8 := ob8.below (below_drewN (Below.refl _ _) nq)
        have oA9 := oa9.below (below_drewN (Below.refl _ _) nq)
        have hwA := below_drewN hw8 nq
        generalize W9.drewN nq = WA at *
        clear s9 ob8 oa9 hw8 q9 d2
        go_wp2_with fail
        go_loopw [133] (fun i wr => ∃ (j : Nat) (xs : List Value), j ≤ m ∧ i = .int .i64 j ∧ OwnAt wr _ 3 1 a8 m c8 g8 xs ∧ (∀ x, j ≤ x → xs[x]? = (F.map (Value.int .i64))[x]?) ∧ Below w.heap.size w wr ∧ WA.heap.size ≤ wr.heap.size ∧ ∀ q, q < WA.heap.size → (a8 ≠ none → q ≠ g8) → wr.heap[q]? = WA.heap[q]?) (fun i _ => m - (intOf i).toNat)
        case atStart => exact ⟨0, _, Nat.zero_le _, rfl, oA8, fun _ _ => rfl, hwA, Nat.le_refl _, fun _ _ _ => rfl⟩
        case round =>
          obtain ⟨j, xs, hj, rfl, ox, hxs, hbx, hsx, hqx⟩ := hrel
          by_cases hjm : j < m
          · obtain ⟨x, hx⟩ : ∃ x : Int, (F.map (Value.int .i64))[j]? = some (.int .i64 x) := ⟨F[j]'(by rw [HM.out]; exact hjm), by simp [show j < F.length by rw [HM.out]; exact hjm]⟩
            obtain rfl := ox.at_ (by omega)
            obtain rfl := oA9.at_ (by omega)
            have hne : g9 ≠ g8 := by have := hg8 (by simp); have := hg9 (by simp); omega
            have ob9 := oA9.of_block (w' := wr) hsx (fun _ => hqx g9 (oA9.blk _ rfl).2.2 (fun _ => hne))
            have cx8 := ox.cell ((hxs j (Nat.le_refl _)).trans hx)
            have cx9 := ob9.cell hx
            have fz8 := ox.frozen (by omega) j
            have hi0 : (0 : Int) ≤ (j : Int) := Int.natCast_nonneg _
            have hi1 : (j : Int) < (m : Int) := by omega
            have HX := Lib.hid hxs
            have HQ := Lib.hid hqx
            have hg0 : w.heap.size ≤ g8 := hgw (by simp)
            clear hxs hqx hx
            go_wp2_with fail
            go_quiet (fail)
            go_wp2_with fail
            go_roundw
            case rel => exact ⟨j + 1, _, by omega, by go_num, (ox.below (below_drewN (Below.refl _ _) _)).set (by omega) j _ (by omega), fun y hy => by
              rw [List.getElem?_set, if_neg (by omega)]
              exact HX.out y (by omega), (below_drewN hbx _).setCell (p := ⟨g8, j, none⟩) hg0 _, by simpa [World.setCell] using hsx, fun q hq hh => (Below.heap_setCell _ _ _ _ (hh (by simp))).trans (HQ.out q hq hh)⟩
            case measure => simp [intOf]; omega
          · have sB := sA.touch oA8 hbx hsx hqx
            go_wp2_with fail
            go_roundw
            case rel => exact ⟨k + 1, _, _, _, _, _, _, by omega, by go_num, rfl, sB, r7, hl8⟩
            case measure => simp [intOf]; omega
    · go_wp2_with fail
      go_loopw [18] (fun i wr => ∃ j : Int, -1 ≤ j ∧ j ≤ N + 1 ∧ i = .int .i64 j ∧ PSt w wr b N h R l a' c g) (fun i _ => (N + 1 - intOf i).toNat)
      case atStart => exact ⟨-1, by omega, by omega, rfl, s⟩
      case round =>
        obtain ⟨j, hj1, hj2, rfl, s⟩ := hrel
        have c0 := s.pb.c0
        have ok := s.pb.st.tab.ok
        by_cases hjN : j ≤ N
        · go_wp2_with fail
          refine (holder_any b N h j _ s.pb.st.tab).mono ?_
          rintro e w' ⟨rfl, rfl⟩
          go_wp2_with fail
          refine (ref_holder s r ok j).mono ?_
          rintro e w' ⟨rfl, rfl⟩
          go_wp2_with fail
          go_roundw
          case rel => exact ⟨j + 1, by omega, by omega, rfl, s⟩
          case measure => simp [intOf]; omega
        · go_wp2_with fail
          refine (known_any _).mono ?_
          rintro e w' ⟨rfl, hb⟩
          go_wp2_with fail
          go_ret
          exact ⟨rfl, below_then s.pb.st.below hb⟩
end Go.Proofs.Yteafbkgaihjieaa
