/-
  The walk of the law ClockPlays.
-/
import Derived.Test.YthgajdaiklfjhaaSame
import Derived.Test.YthgajdaiklfjhaaDocN
import Derived.Test.YthgajdaiklfjhaaOpsI
namespace Go.Proofs.Ythgajdaiklfjhaa
open Go.RowKit
/-- The clock, and the document's, at one ring. -/
structure PW (w W : World) (D b g R : Nat) (a : Option Addr) (c X : Nat) (L : Rg) : Prop where
  st : St w W D b g L
  dk : DK W w.heap.size R a c X L
  ownR : w.heap.size ≤ R
theorem ring_ne_own {w : World} {base base' n c g o n' c' X : Nat} {a a' : Option Addr} {xs : List Int} {ys : List Value} (h : RingAt w base 3 a n c g o xs) (h' : OwnAt w base' 61 3 a' n' c' X ys) (ha : a ≠ none) (ha' : a' ≠ none) : g ≠ X := by
  rintro rfl
  obtain ⟨cs, h1, _⟩ := h.blk ha
  rcases h'.own.2 with ⟨h2, _⟩ | ⟨x', cap', cur', h2, hb', hg', _⟩
  · cases h2; exact ha' rfl
  · cases h2
    have e := (h'.blk _ rfl).1
    cases e
    rw [h1] at hg'
    injection hg' with hg'
    injection hg' with _ ht
    exact absurd ht (by decide)
structure PWne (D b g R X : Nat) : Prop where
  dr : D ≠ R ∧ D ≠ X
  gr : g ≠ R ∧ g ≠ X
  br : b ≠ R ∧ b ≠ X
section
variable {w W W' : World} {D b g R c X : Nat} {a : Option Addr} {L L' : Rg}
theorem St.ne_row {d t n : Nat} {f : Nat → Value} (s : St w W D b g L) (r : W.rowIs d t n f) (h1 : t ≠ 50) (h2 : t ≠ 3) : D ≠ d ∧ g ≠ d ∧ b ≠ d := by
  obtain ⟨a', c', o', k⟩ := s.ck
  refine ⟨rowIs_ne k.srow r h1.symm, ?_, k.map.ne_row r⟩
  by_cases ha : a' = none
  · rw [k.gb ha]; exact k.map.ne_row r
  · exact k.ring.ne r h2.symm ha
theorem PW.nes (s : PW w W D b g R a c X L) : PWne D b g R X := by
  obtain ⟨h1, h2, h3⟩ := s.st.ne_row s.dk.row (by decide) (by decide)
  by_cases hx : a = none
  · rw [s.dk.xn hx]; exact ⟨⟨h1, h1⟩, ⟨h2, h2⟩, ⟨h3, h3⟩⟩
  · obtain ⟨a', c', o', k⟩ := s.st.ck
    have hb := k.map.ne_own s.dk.own hx
    refine ⟨⟨h1, fun e => s.dk.own.ne k.srow (by decide) hx e.symm⟩, ⟨h2, ?_⟩, ⟨h3, hb⟩⟩
    by_cases ha : a' = none
    · rw [k.gb ha]; exact hb
    · exact ring_ne_own k.ring s.dk.own ha hx
theorem PW.below (s : PW w W D b g R a c X L) (k : Below W.heap.size W W') : PW w W' D b g R a c X L := ⟨s.st.belowW k, s.dk.below k, s.ownR⟩
theorem PW.neQ {d n : Nat} {f : Nat → Value} (s : PW w W D b g R a c X L) (r : W.rowIs d 28 n f) : D ≠ d ∧ g ≠ d ∧ b ≠ d ∧ R ≠ d ∧ X ≠ d := by
  obtain ⟨h1, h2, h3⟩ := s.st.ne_row r (by decide) (by decide)
  have h4 := rowIs_ne s.dk.row r (by decide)
  refine ⟨h1, h2, h3, h4, ?_⟩
  by_cases hx : a = none
  · rw [s.dk.xn hx]; exact h4
  · exact s.dk.own.ne r (by decide) hx
theorem rowIs_tri {d t n D g b : Nat} {f : Nat → Value} (r : W.rowIs d t n f) (k : Tri W W' D g b) (h : d ≠ D ∧ d ≠ g ∧ d ≠ b) : W'.rowIs d t n f := r.of_block (k.block d r.lt h.1 h.2.1 h.2.2)
/-- The clock has turned: the document's is as it was. -/
theorem PW.dkC (s : PW w W D b g R a c X L) (k : Tri W W' D g b) : DK W' w.heap.size R a c X L :=
  have h := s.nes
  s.dk.tri k ⟨h.dr.1.symm, h.gr.1.symm, h.br.1.symm⟩ ⟨h.dr.2.symm, h.gr.2.symm, h.br.2.symm⟩
theorem St.tri {D' b' g' : Nat} (s : St w W D' b' g' L) (k : Tri W W' D g b) (h : D' ≠ D ∧ D' ≠ g ∧ D' ≠ b) (h2 : g' ≠ D ∧ g' ≠ g ∧ g' ≠ b) (h3 : b' ≠ D ∧ b' ≠ g ∧ b' ≠ b) (hl : w.heap.size ≤ D ∧ w.heap.size ≤ g ∧ w.heap.size ≤ b) : St w W' D' b' g' L := by
  obtain ⟨a', c', o', q⟩ := s.ck
  refine ⟨⟨a', c', o', q.tri k ?_⟩, below_tri s.below k hl.1 hl.2.1 hl.2.2, s.own⟩
  rintro d (rfl | rfl | rfl)
  · exact ⟨h.1, h2.1, h3.1⟩
  · exact ⟨h.2.1, h2.2.1, h3.2.1⟩
  · exact ⟨h.2.2, h2.2.2, h3.2.2⟩
end
section
variable {w W W' W2 : World} {D b g g' R c X : Nat} {a : Option Addr} {L L' : Rg}
/-- Behind the document's turn. -/
theorem PW.doc (s : St w W D b g L') (hne : D ≠ R ∧ D ≠ X ∧ g ≠ R ∧ g ≠ X ∧ b ≠ R ∧ b ≠ X) (hR : w.heap.size ≤ R) (hX : w.heap.size ≤ X) (t : DTurn W W' w.heap.size R X L') : ∃ a' c' X', PW w W' D b g R a' c' X' L' := by
  obtain ⟨a', c', X', dk', k⟩ := t
  exact ⟨a', c', X', s.tri k ⟨hne.1, hne.2.1, hne.2.1⟩ ⟨hne.2.2.1, hne.2.2.2.1, hne.2.2.2.1⟩ ⟨hne.2.2.2.2.1, hne.2.2.2.2.2, hne.2.2.2.2.2⟩ ⟨hR, hX, hX⟩, dk', hR⟩
/-- A turn of both. -/
theorem PW.both (s : PW w W D b g R a c X L) (t : Turned w W W' D b g L') {w2 : World} (t2 : ∀ _ : DK W' w.heap.size R a c X L, DTurn W' w2 w.heap.size R X L') : ∃ g' a' c' X', PW w w2 D b g' R a' c' X' L' := by
  obtain ⟨g', hg, st, k⟩ := t
  have dk' := s.dkC k
  have h := s.nes
  have hX := s.dk.ltX
  have hR := s.dk.row.lt
  have hX2 := s.dk.geX s.ownR
  have hgR : g' ≠ R ∧ g' ≠ X := by
    rcases hg with rfl | hg
    · exact h.gr
    · exact ⟨by omega, by omega⟩
  obtain ⟨a', c', X', p⟩ := PW.doc st ⟨h.dr.1, h.dr.2, hgR.1, hgR.2, h.br.1, h.br.2⟩ s.ownR hX2 (t2 dk')
  exact ⟨g', a', c', X', p⟩
end
/-- An op, copied. -/
def boxV (V : Nat → Int) (i : Nat) : Value := .int .i64 (V i)
theorem box_at {W : World} {Q : Nat} {V : Nat → Int} (h : W.rowIs Q 28 2 (boxV V)) {j : Nat} (hj : j < 2) : W.cell? ⟨Q, j, none⟩ = some (.int .i64 (V j)) := h.cell hj
theorem box_new (W : World) (V : Nat → Int) : (W.alloc (.cells #[.int .i64 (V 0), .int .i64 (V 1)] 28)).rowIs W.heap.size 28 2 (boxV V) :=
  World.rowIs_alloc W #[.int .i64 (V 0), .int .i64 (V 1)] 28 (boxV V) (fun i hi => by
    rcases (show i = 0 ∨ i = 1 by simp at hi; omega) with rfl | rfl <;> rfl)
set_option maxRecDepth 100000 in
set_option maxHeartbeats 8000000 in
theorem plays_any (a : Option Addr) (len cap bo off : Nat) (V : Nat → Nat → Int) (stop : Int) (w : World) (o : OpsI w a len bo off 2 V) (hlen : len ≤ 9223372036854775807) :
    Calls Try.prog 7 #[.slice a len cap, .int .i64 stop] w fun e w' => e = .returned (.bool true) ∧ Below w.heap.size w w' := by
  by_cases hbad : 200 < len
  · have d1 : decide ((200 : Int) < (len : Int)) = true := by simp; omega
    go_enter Try.func7, Try.ntmps7
    go_wp2_with fail
    refine (known_any w).mono ?_
    rintro e WF ⟨rfl, bF⟩
    go_wp2_with fail
    go_ret
    exact ⟨rfl, bF⟩
  have d1 : decide ((200 : Int) < (len : Int)) = false := by simp; omega
  have d2 : decide (200 < len) = false := by simp; omega
  go_enter Try.func7, Try.ntmps7
  go_wp2_with fail
  refine (new_st (Below.refl _ w)).mono ?_
  rintro e W1 ⟨rfl, s1, b1⟩
  have bR := below_new W1 (.cells #[.slice none 0 0] 45)
  have rR : (W1.alloc (.cells #[.slice none 0 0] 45)).rowIs W1.heap.size 45 1 (fun _ => .slice none 0 0) :=
    World.rowIs_alloc W1 #[.slice none 0 0] 45 (fun _ => .slice none 0 0) (fun i hi => by
      obtain rfl : i = 0 := by simp at hi; omega
      rfl)
  have p2 : PW w (W1.alloc (.cells #[.slice none 0 0] 45)) (w.heap.size + 1) w.heap.size w.heap.size W1.heap.size none 0 W1.heap.size [] :=
    ⟨s1.belowW bR, ⟨rR, ⟨World.ownsRow_nil _ _ _ _, fun h => absurd h (Nat.lt_irrefl _), fun b hb => by cases hb⟩, okC_nil, fun _ => rfl⟩, s1.below.size⟩
  clear s1 b1 bR rR
  go_wp2_with fail
  generalize W1.alloc (.cells #[.slice none 0 0] 45) = W2 at *
  generalize hRR : W1.heap.size = R at *
  generalize w.heap.size + 1 = D0 at *
  generalize hbb : w.heap.size = b0 at p2
  clear hRR hbb d1 d2
  go_wp2_with fail
  go_loopw [5, 23] (fun m v wr => ∃ (k D b g : Nat) (a : Option Addr) (c X : Nat) (L : Rg), k ≤ len ∧ m = .pointer (some ⟨D, 0, none⟩) ∧ v = .int .i64 k ∧ PW w wr D b g R a c X L ∧ L.length ≤ k) (fun _ v _ => len - (intOf v).toNat)
  case atStart => exact ⟨0, D0, b0, b0, none, 0, R, [], Nat.zero_le _, rfl, rfl, p2, Nat.le_refl _⟩
  case round =>
    clear p2
    obtain ⟨k, D, b, g, aR, c, X, L, hk, rfl, rfl, s, hLk⟩ := hrel
    by_cases hlt : k < len
    · have o' := o.below s.st.below
      have ck := o'.c0 hlt (by omega)
      have c1 := o'.cell k hlt 1 (by omega)
      obtain rfl := o.at_ (by omega)
      have hfr := o.i64 k hlt 1 (by omega)
      have hkd : kdI (V k 1) := wf64 hfr.1 hfr.2
      have bn := below_new wr (.cells #[.int .i64 (V k 0), .int .i64 (V k 1)] 28)
      have sn := s.below bn
      have qn := box_new wr (V k)
      clear bn o' s
      have d0 := box_at qn (j := 0) (by omega)
      have hn6 : L.length ≤ 1000000 := by omega
      go_upto_block 2 with fail
      generalize wr.heap.size = Q at *
      generalize wr.alloc (.cells #[.int .i64 (V k 0), .int .i64 (V k 1)] 28) = W4 at *
      have e1 := box_at qn (j := 1) (by omega)
      clear d0
      go_cut [5] from 31 to 93 (fun s5 wx => ∃ (D7 b7 g7 : Nat) (a7 : Option Addr) (c7 X7 : Nat) (L7 : Rg), s5 = .pointer (some ⟨D7, 0, none⟩) ∧ PW w wx D7 b7 g7 R a7 c7 X7 L7 ∧ L7.length ≤ k + 1 ∧ wx.rowIs Q 28 2 (boxV (V k)))
      case first =>
        have hq := sn.neQ qn
        have HW4 := Lib.hid sn.st.below.size
        rcases Decidable.em (V k 0 = 0) with hk0 | hk0
        case' inl =>
          have q0 : (V k 0 == 0) = true := by rw [hk0]; rfl
          clear hk0
          obtain ⟨x, L7, hx⟩ : ∃ x L7, addC L (V k 1) = (x, L7) := ⟨_, _, rfl⟩
          have HX := Lib.hid hx
          have hl7 : L7.length ≤ k + 1 := by have := len_addC L (V k 1); rw [hx] at this; simp at this; omega
          clear hx
          go_wp2_with fail
          have sd := sn.below (Below.refl W4.heap.size W4).drew
          have qd := rowIs_below qn (Below.refl W4.heap.size W4).drew
          go_region_held3 (fun w' => w'.cell? ⟨Q, 1, none⟩ = some (.int .i64 (V k 1)))
            (first | exact box_at q7 (j := 1) (by omega) | exact box_at q5 (j := 1) (by omega) | go_keep)
            (first
              | (go_at_call 14; refine (add_st sd.st hn6 hkd HX.out).mono ?_; rintro e W5 ⟨rfl, t5⟩; obtain ⟨g5, hg5, st5, k5⟩ := id t5; have q5 := rowIs_tri qd k5 ⟨hq.1.symm, hq.2.1.symm, hq.2.2.1.symm⟩; have dk5 := sd.dkC k5; have hsz5 := k5.size)
              | (go_at_call 20; refine (doc_add dk5 (Nat.le_trans HW4.out hsz5) hn6 (V k 1) HX.out).mono ?_; rintro e W7 ⟨rfl, t7⟩; obtain ⟨g7, a7, c7, X7, s7⟩ := sd.both t5 (fun _ => t7); obtain ⟨_, _, _, _, k7⟩ := id t7; have q7 := rowIs_tri q5 k7 ⟨hq.2.2.2.1.symm, hq.2.2.2.2.symm, hq.2.2.2.2.symm⟩))
          clear dk5 t5 t7 k5 st5 hg5 q5 k7 sd qd sn qn e1
          go_wp2_with fail
        case' inr =>
          have q0 : (V k 0 == 0) = false := beq_eq_false_iff_ne.2 hk0
          clear hk0
          rcases Decidable.em (V k 0 = 1) with hk1 | hk1
          case' inl =>
            have q1 : (V k 0 == 1) = true := by rw [hk1]; rfl
            clear hk1
            obtain ⟨x, L7, hx⟩ : ∃ x L7, removeC L (V k 1) = (x, L7) := ⟨_, _, rfl⟩
            have HX := Lib.hid hx
            have hl7 : L7.length ≤ k + 1 := by have := len_removeC L (V k 1); rw [hx] at this; simp at this; omega
            clear hx
            go_wp2_with fail
            have sd := sn.below (Below.refl W4.heap.size W4).drew
            have qd := rowIs_below qn (Below.refl W4.heap.size W4).drew
            go_region_held3 (fun w' => w'.cell? ⟨Q, 1, none⟩ = some (.int .i64 (V k 1)))
              (first | exact box_at q7 (j := 1) (by omega) | exact box_at q5 (j := 1) (by omega) | go_keep)
              (first
                | (go_at_call 11; refine (remove_st sd.st hkd HX.out).mono ?_; rintro e W5 ⟨rfl, t5⟩; obtain ⟨g5, hg5, st5, k5⟩ := id t5; have q5 := rowIs_tri qd k5 ⟨hq.1.symm, hq.2.1.symm, hq.2.2.1.symm⟩; have dk5 := sd.dkC k5; have hsz5 := k5.size)
                | (go_at_call 21; refine (doc_remove dk5 (Nat.le_trans HW4.out hsz5) hn6 (V k 1) HX.out).mono ?_; rintro e W7 ⟨rfl, t7⟩; obtain ⟨g7, a7, c7, X7, s7⟩ := sd.both t5 (fun _ => t7); obtain ⟨_, _, _, _, k7⟩ := id t7; have q7 := rowIs_tri q5 k7 ⟨hq.2.2.2.1.symm, hq.2.2.2.2.symm, hq.2.2.2.2.symm⟩))
            clear dk5 t5 t7 k5 st5 hg5 q5 k7 sd qd sn qn e1
            go_wp2_with fail
          case' inr =>
            have q1 : (V k 0 == 1) = false := beq_eq_false_iff_ne.2 hk1
            clear hk1
            rcases Decidable.em (V k 0 = 2) with hk2 | hk2
            case' inl =>
              have q2 : (V k 0 == 2) = true := by rw [hk2]; rfl
              clear hk2
              obtain ⟨x, L7, hx⟩ : ∃ x L7, touchC L (V k 1) = (x, L7) := ⟨_, _, rfl⟩
              have HX := Lib.hid hx
              have hl7 : L7.length ≤ k + 1 := by have := len_touchC L (V k 1); rw [hx] at this; simp at this; omega
              clear hx
              go_wp2_with fail
              have sd := sn.below (Below.refl W4.heap.size W4).drew
              have qd := rowIs_below qn (Below.refl W4.heap.size W4).drew
              go_region_held3 (fun w' => w'.cell? ⟨Q, 1, none⟩ = some (.int .i64 (V k 1)))
                (first | exact box_at q7 (j := 1) (by omega) | exact box_at q5 (j := 1) (by omega) | go_keep)
                (first
                  | (go_at_call 12; refine (touch_st sd.st hkd HX.out).mono ?_; rintro e W5 ⟨rfl, t5⟩; obtain ⟨g5, hg5, st5, k5⟩ := id t5; have q5 := rowIs_tri qd k5 ⟨hq.1.symm, hq.2.1.symm, hq.2.2.1.symm⟩; have dk5 := sd.dkC k5; have hsz5 := k5.size)
                  | (go_at_call 22; refine (doc_touch dk5 sd.ownR hn6 (V k 1) HX.out).mono ?_; rintro e W7 ⟨rfl, t7⟩; obtain ⟨g7, a7, c7, X7, s7⟩ := sd.both t5 (fun _ => t7); obtain ⟨_, _, _, _, k7⟩ := id t7; have q7 := rowIs_tri q5 k7 ⟨hq.2.2.2.1.symm, hq.2.2.2.2.symm, hq.2.2.2.2.symm⟩))
              clear dk5 t5 t7 k5 st5 hg5 q5 k7 sd qd sn qn e1
              go_wp2_with fail
            case' inr =>
              have q2 : (V k 0 == 2) = false := beq_eq_false_iff_ne.2 hk2
              clear hk2
              rcases Decidable.em (V k 0 = 3) with hk3 | hk3
              case' inl =>
                have q3 : (V k 0 == 3) = true := by rw [hk3]; rfl
                clear hk3
                obtain ⟨t, L7, hx⟩ : ∃ t L7, nextC L = (t, L7) := ⟨_, _, rfl⟩
                have HX := Lib.hid hx
                have hl7 : L7.length ≤ k + 1 := by have := len_nextC L; rw [hx] at this; simp at this; omega
                clear hx e1
                cases t
                all_goals
                  go_wp2_with fail
                  refine (next_st sn.st hn6 HX.out).mono ?_
                  rintro e W5 ⟨rfl, t5⟩
                  obtain ⟨g5, hg5, st5, k5⟩ := id t5
                  have q5 := rowIs_tri qn k5 ⟨hq.1.symm, hq.2.1.symm, hq.2.2.1.symm⟩
                  have dk5 := sn.dkC k5
                  have hsz5 := k5.size
                  unfold toldV
                  go_wp2_with fail
                  refine (doc_next dk5 (Nat.le_trans HW4.out hsz5) hn6 HX.out).mono ?_
                  rintro e W7 ⟨rfl, a7', c7', X7', dk7, on7⟩
                  have t7 : DTurn W5 W7 w.heap.size R X L7 := ⟨a7', c7', X7', dk7, tri_only on7 (.inl rfl)⟩
                  obtain ⟨g7, a7, c7, X7, s7⟩ := sn.both t5 (fun _ => t7)
                  have q7 := rowIs_only q5 on7 hq.2.2.2.1.symm
                  unfold toldV
                  clear dk5 t5 t7 k5 st5 hg5 q5 dk7 on7 sn qn
                  go_wp2_with fail
              case' inr =>
                have q3 : (V k 0 == 3) = false := beq_eq_false_iff_ne.2 hk3
                clear hk3
                rcases Decidable.em (V k 0 = 4) with hk4 | hk4
                case' inl =>
                  have q4 : (V k 0 == 4) = true := by rw [hk4]; rfl
                  clear hk4 e1
                  go_wp2_with fail
                  refine (copy_st sn.st hn6).mono ?_
                  rintro e W5 ⟨D7, b7, g7, rfl, hD7, hb7, hg7, st7, b5⟩
                  have s5 := sn.below b5
                  have q5 := rowIs_below qn b5
                  have lD := sn.st.ltD
                  have lb := sn.st.ltb
                  have lg := sn.st.ltg
                  have lD7 := st7.ltD.2
                  have lb7 := st7.ltb.2
                  have lg7 := st7.ltg.2
                  obtain ⟨x6, L6, hx6⟩ : ∃ x6 L6, addC L 1048576 = (x6, L6) := ⟨_, _, rfl⟩
                  have hl6 : L6.length ≤ 1000000 := by have := len_addC L 1048576; rw [hx6] at this; simp at this; omega
                  have HX6 := Lib.hid hx6
                  clear hx6
                  go_wp2_with fail
                  refine (add_st s5.st hn6 (wf64 (by omega) (by omega)) HX6.out).mono ?_
                  rintro e W6 ⟨rfl, g6, hg6, st6, k6⟩
                  have hq5 := s5.neQ q5
                  have q6 := rowIs_tri q5 k6 ⟨hq5.1.symm, hq5.2.1.symm, hq5.2.2.1.symm⟩
                  have dk6 := s5.dkC k6
                  have st76 := st7.tri k6 ⟨by omega, by omega, by omega⟩ ⟨by omega, by omega, by omega⟩ ⟨by omega, by omega, by omega⟩ ⟨lD.1, lg.1, lb.1⟩
                  have p6 : PW w W6 D b g6 R aR c X L6 → True := fun _ => trivial
                  obtain ⟨t7, L8, hx7⟩ : ∃ t7 L8, nextC L6 = (t7, L8) := ⟨_, _, rfl⟩
                  have HX7 := Lib.hid hx7
                  clear hx7 p6
                  go_wp2_with fail
                  refine (next_st st6 hl6 HX7.out).mono ?_
                  rintro e W7 ⟨rfl, g8, hg8, st8, k8⟩
                  have lg6 := st6.ltg
                  have q7 := rowIs_tri q6 k8 (by
                    have := st6.ne_row q6 (by decide) (by decide)
                    exact ⟨this.1.symm, this.2.1.symm, this.2.2.symm⟩)
                  have hneg6 : D7 ≠ g6 ∧ g7 ≠ g6 ∧ b7 ≠ g6 := by rcases hg6 with rfl | hg6 <;> exact ⟨by omega, by omega, by omega⟩
                  have st77 := st76.tri k8 ⟨by omega, hneg6.1, by omega⟩ ⟨by omega, hneg6.2.1, by omega⟩ ⟨by omega, hneg6.2.2, by omega⟩ ⟨lD.1, lg6.1, lb.1⟩
                  have hne6 := s5.nes
                  have hRX : R < W5.heap.size ∧ X < W5.heap.size := ⟨s5.dk.row.lt, s5.dk.ltX⟩
                  have hgRX : R ≠ g6 ∧ X ≠ g6 := by
                    rcases hg6 with rfl | hg6
                    · exact ⟨hne6.gr.1.symm, hne6.gr.2.symm⟩
                    · exact ⟨by omega, by omega⟩
                  have dk7 := dk6.tri k8 ⟨hne6.dr.1.symm, hgRX.1, hne6.br.1.symm⟩ ⟨hne6.dr.2.symm, hgRX.2, hne6.br.2.symm⟩
                  have s7 : PW w W7 D7 b7 g7 R aR c X L := ⟨st77, dk7, s5.ownR⟩
                  have hl7 : L.length ≤ k + 1 := by omega
                  clear st77 dk7 st76 dk6 st7 st6 st8 s5 sn q5 q6 qn
                  go_wp2_with fail
                case' inr =>
                  have q4 : (V k 0 == 4) = false := beq_eq_false_iff_ne.2 hk4
                  clear hk4 e1
                  go_wp2_with fail
                  have s7 := sn
                  have q7 := qn
                  have hl7 : L.length ≤ k + 1 := by omega
                  clear sn qn
        all_goals
          go_meet
          exact ⟨_, _, _, _, _, _, _, rfl, s7, hl7, q7⟩
      case rest =>
        clear sn qn e1
        obtain ⟨D7, b7, g7, a7, c7, X7, L7, rfl, s7, hl7, q7⟩ := hcut
        have d1 := box_at q7 (j := 1) (by omega)
        go_wp2_with fail
        refine (same_any s7.st s7.dk s7.ownR (by omega) hkd stop).mono ?_
        rintro e W8 ⟨rfl, b8⟩
        have s8 := s7.below b8
        clear s7 q7 d1 b8
        go_wp2_with fail
        go_roundw
        case rel => exact ⟨k + 1, _, _, _, _, _, _, _, by omega, rfl, by go_num, s8, hl7⟩
        case measure => simp [intOf]; omega
    · have hkl : k = len := by omega
      subst hkl
      have HBL := Lib.hid s.st.below
      go_wp2_with fail
      refine (known_any wr).mono ?_
      rintro e WF ⟨rfl, bF⟩
      go_wp2_with fail
      go_ret
      exact ⟨rfl, below_then HBL.out bF⟩
end Go.Proofs.Ythgajdaiklfjhaa
