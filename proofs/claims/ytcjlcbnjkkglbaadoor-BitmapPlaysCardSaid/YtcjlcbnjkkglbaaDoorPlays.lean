/-
  The walk of the law BitmapPlays.
-/
import Derived.Test.YtcjlcbnjkkglbaaDoorSame
import Derived.Test.YtcjlcbnjkkglbaaDoorOpsI
import Derived.Deep.RegionHeld3
import Derived.Deep.RegionHeld3
import Derived.Deep.RegionHeld3
import Derived.Deep.RegionHeld3
namespace Go.Proofs.YtcjlcbnjkkglbaaDoor
open Go.RowKit
/-- The set, and the document's, of one content. -/
structure PW (w W : World) (D b X N : Nat) (Wd : Nat → Nat) : Prop where
  st : StB w W D b N Wd
  db : DB W w.heap.size X N Wd
  cl : Clean Wd N
section
variable {w W W' W2 : World} {D b X N : Nat} {Wd Wd' : Nat → Nat}
theorem PW.below (s : PW w W D b X N Wd) (k : Below W.heap.size W W') : PW w W' D b X N Wd := ⟨s.st.belowW k, s.db.below k, s.cl⟩
theorem StB.ne_row {d t n : Nat} {f : Nat → Value} (s : StB w W D b N Wd) (r : W.rowIs d t n f) (h1 : t ≠ 46) (h2 : t ≠ 51) : D ≠ d ∧ b ≠ d := by
  obtain ⟨c, h⟩ := s.bs
  exact ⟨rowIs_ne h.srow r h1.symm, h.own.ne r h2.symm (by simp)⟩
theorem PW.ne (s : PW w W D b X N Wd) : D ≠ X ∧ b ≠ X := by
  obtain ⟨c, h⟩ := s.st.bs
  exact ⟨fun e => s.db.own.ne h.srow (by decide) (by simp) e.symm, h.own.ne_own s.db.own (by decide) (by simp) (by simp)⟩
theorem PW.neQ {d n : Nat} {f : Nat → Value} (s : PW w W D b X N Wd) (r : W.rowIs d 39 n f) : D ≠ d ∧ b ≠ d ∧ X ≠ d := by
  obtain ⟨h1, h2⟩ := s.st.ne_row r (by decide) (by decide)
  exact ⟨h1, h2, s.db.own.ne r (by decide) (by simp)⟩
/-- A turn of both. -/
theorem PW.both (s : PW w W D b X N Wd) (t : StB w W' D b N Wd') (k : Only W W' b) (d : DB W2 w.heap.size X N Wd') (k2 : Only W' W2 X) (hc : Clean Wd' N) : PW w W2 D b X N Wd' := by
  have h := s.ne
  have hX := s.db.lt
  exact ⟨t.onlyO k2 ⟨h.1, h.2⟩ hX.1, d, hc⟩
theorem PW.dbO (s : PW w W D b X N Wd) (k : Only W W' b) : DB W' w.heap.size X N Wd := s.db.only k s.ne.2.symm
theorem copy_st (s : StB w W D b N Wd) : Calls Tryd.prog 20 #[.pointer (some ⟨D, 0, none⟩)] W fun e W' =>
    ∃ D' b', e = .returned (.pointer (some ⟨D', 0, none⟩)) ∧ W.heap.size ≤ D' ∧ W.heap.size ≤ b' ∧ StB w W' D' b' N Wd ∧ Below W.heap.size W W' := by
  obtain ⟨c, h⟩ := s.bs
  refine (copy_any h).mono ?_
  rintro e W' ⟨D', a', c', b', rfl, hD, t, ha, bl⟩
  have hs := s.below.size
  have hn : a' ≠ none := fun e => by have := ha.1 e; cases this
  obtain ⟨ad, rfl⟩ : ∃ ad, a' = some ad := by cases a' with | none => exact absurd rfl hn | some ad => exact ⟨ad, rfl⟩
  obtain ⟨rfl, hb1, hb2⟩ := t.own.blk ad rfl
  refine ⟨D', b', rfl, hD, hb1, ⟨⟨c', t.srow, ?_, t.le, t.sm⟩, below_then s.below bl, by omega, s.tab.below bl (by have := s.pos; omega), s.pos⟩, bl⟩
  refine ⟨⟨t.own.own.1, ?_⟩, t.own.at_, fun ad had => ?_⟩
  · rcases t.own.own.2 with h1 | ⟨g, cap, cur, h1, h2, r⟩
    · exact .inl h1
    · exact .inr ⟨g, cap, cur, h1, by omega, r⟩
  · obtain ⟨e1, e2, e3⟩ := t.own.blk ad had
    exact ⟨e1, by omega, e3⟩
end
/-- An op, copied. -/
def boxV (V : Nat → Int) (i : Nat) : Value := .int .i64 (V i)
theorem box_at {W : World} {Q : Nat} {V : Nat → Int} (h : W.rowIs Q 39 3 (boxV V)) {j : Nat} (hj : j < 3) : W.cell? ⟨Q, j, none⟩ = some (.int .i64 (V j)) := h.cell hj
theorem box_new (W : World) (V : Nat → Int) : (W.alloc (.cells #[.int .i64 (V 0), .int .i64 (V 1), .int .i64 (V 2)] 39)).rowIs W.heap.size 39 3 (boxV V) :=
  World.rowIs_alloc W #[.int .i64 (V 0), .int .i64 (V 1), .int .i64 (V 2)] 39 (boxV V) (fun i hi => by
    rcases (show i = 0 ∨ i = 1 ∨ i = 2 by simp at hi; omega) with rfl | rfl | rfl <;> rfl)
set_option maxRecDepth 100000 in
set_option maxHeartbeats 8000000 in
theorem plays_any (n : Int) (a : Option Addr) (len cap bo off : Nat) (V : Nat → Nat → Int) (w : World) (o : OpsI w a len bo off 3 V) (hlen : len ≤ 9223372036854775807) (h0 : 0 < w.heap.size) (hT : TabW w) :
    Calls Tryd.prog 5 #[.int .i64 n, .slice a len cap] w fun e w' => e = .returned (.bool true) ∧ Below w.heap.size w w' := by
  by_cases hbad : (300 < n ∧ (n < 65536 ∨ 6 < len)) ∨ 200 < len
  · have hc : (300 < n ∧ n < 65536) ∨ (300 < n ∧ ¬ n < 65536 ∧ 6 < len) ∨ (¬ 300 < n ∧ 200 < len) := by omega
    rcases hc with ⟨h, h1⟩ | ⟨h, h1, h2⟩ | ⟨h, h1⟩
    case' inl =>
      have d1 : decide (300 < n) = true := by simp; omega
      have d2 : decide (n < 65536) = true := by simp; omega
    case' inr.inl =>
      have d1 : decide (300 < n) = true := by simp; omega
      have d2 : decide (n < 65536) = false := by simp; omega
      have d3 : decide ((6 : Int) < (len : Int)) = true := by simp; omega
    case' inr.inr =>
      have d1 : decide (300 < n) = false := by simp; omega
      have d3 : decide ((200 : Int) < (len : Int)) = true := by simp; omega
    all_goals
      go_enter Tryd.func5, Tryd.ntmps5
      go_wp2_with fail
      refine (known_any w h0 hT).mono ?_
      rintro e WF ⟨rfl, bF⟩
      go_wp2_with fail
      go_ret
      exact ⟨rfl, bF⟩
  go_enter Tryd.func5, Tryd.ntmps5
  go_upto_region 1 with fail
  go_cut [38] from 23 to 38 (fun c wx => c = .bool false ∧ w = wx)
  case first =>
    have hc : (300 < n ∧ ¬ n < 65536 ∧ ¬ 6 < len) ∨ (¬ 300 < n ∧ ¬ 200 < len) := by omega
    rcases hc with ⟨h, h1, h2⟩ | ⟨h, h1⟩
    case' inl =>
      have d1 : decide (300 < n) = true := by simp; omega
      have d2 : decide (n < 65536) = false := by simp; omega
      have d3 : decide ((6 : Int) < (len : Int)) = false := by simp; omega
      have d4 : decide ((200 : Int) < (len : Int)) = false := by simp; omega
      have d5 : decide (6 < len) = false := by simp; omega
      have d6 : decide (200 < len) = false := by simp; omega
    case' inr =>
      have d1 : decide (300 < n) = false := by simp; omega
      have d4 : decide ((200 : Int) < (len : Int)) = false := by simp; omega
      have d6 : decide (200 < len) = false := by simp; omega
    all_goals
      go_wp2_with fail
      go_meet
      exact ⟨rfl, rfl⟩
  case rest =>
  obtain ⟨rfl, rfl⟩ := hcut
  have hlen2 : len ≤ 200 := by omega
  clear hbad
  go_wp2_with fail
  refine (new_st (Below.refl _ w) h0 hT n).mono ?_
  rintro e W1 ⟨rfl, s1, b1⟩
  go_wp2_with fail
  refine (doc_new n W1 b1.size).mono ?_
  rintro e W2 ⟨rfl, d2, b2⟩
  have p2 : PW w W2 (w.heap.size + 1) w.heap.size W1.heap.size (clampN n) k0 := ⟨s1.belowW b2, d2, clean_zero _⟩
  have hNle := s1.le
  clear s1 b1 d2 b2
  generalize hRR : W1.heap.size = X at *
  generalize w.heap.size + 1 = D0 at *
  generalize hbb : w.heap.size = b0 at p2
  generalize clampN n = N at *
  clear hRR hbb
  go_wp2_with fail
  go_loopw [5, 48] (fun m v wr => ∃ (k D b : Nat) (Wd : Nat → Nat), k ≤ len ∧ m = .pointer (some ⟨D, 0, none⟩) ∧ v = .int .i64 k ∧ PW w wr D b X N Wd) (fun _ v _ => len - (intOf v).toNat)
  case atStart => exact ⟨0, D0, b0, k0, Nat.zero_le _, rfl, rfl, p2⟩
  case round =>
    clear p2
    obtain ⟨k, D, b, Wd, hk, rfl, rfl, s⟩ := hrel
    by_cases hlt : k < len
    · have o' := o.below s.st.below
      have ck := o'.c0 hlt (by omega)
      have c1 := o'.cell k hlt 1 (by omega)
      have c2 := o'.cell k hlt 2 (by omega)
      obtain rfl := o.at_ (by omega)
      have hf1 := (o.i64 k hlt 1 (by omega)).2
      have bn := below_new wr (.cells #[.int .i64 (V k 0), .int .i64 (V k 1), .int .i64 (V k 2)] 39)
      have sn := s.below bn
      have qn := box_new wr (V k)
      clear bn o' s
      have d0 := box_at qn (j := 0) (by omega)
      go_upto_block 2 with fail
      generalize wr.heap.size = Q at *
      generalize wr.alloc (.cells #[.int .i64 (V k 0), .int .i64 (V k 1), .int .i64 (V k 2)] 39) = W4 at *
      have e1 := box_at qn (j := 1) (by omega)
      have e2 := box_at qn (j := 2) (by omega)
      clear d0
      go_cut [5, 9] from 56 to 186 (fun s5 s9 wx => ∃ (D7 b7 : Nat) (W7d : Nat → Nat), s5 = .pointer (some ⟨D7, 0, none⟩) ∧ s9 = .bool true ∧ PW w wx D7 b7 X N W7d ∧ wx.rowIs Q 39 3 (boxV (V k)))
      case first =>
        have hq := sn.neQ qn
        rcases Decidable.em (V k 0 = 1) with hk1 | hk1
        · have q1 : (V k 0 == 1) = true := by rw [hk1]; rfl
          clear hk1
          obtain ⟨x, hx⟩ : ∃ x, putE N Wd (V k 1) = x := ⟨_, rfl⟩
          obtain ⟨W7d, h7⟩ : ∃ W7d, (if x = 0 then putW Wd (V k 1).toNat else Wd) = W7d := ⟨_, rfl⟩
          have HX := Lib.hid hx
          have H7 := Lib.hid h7
          have hcl7 : Clean W7d N := by have := clean_put sn.cl (V k 1); rw [hx, h7] at this; exact this
          clear hx h7 e2
          go_wp2_with fail
          have sd := sn.below (Below.refl W4.heap.size W4).drew
          have qd := rowIs_below qn (Below.refl W4.heap.size W4).drew
          go_region_held3 (fun w' => w'.cell? ⟨Q, 1, none⟩ = some (.int .i64 (V k 1)))
            (first | exact box_at q7 (j := 1) (by omega) | exact box_at q5 (j := 1) (by omega) | go_keep)
            (first
              | (go_at_call 9; refine (put_st sd.st (V k 1) HX.out H7.out).mono ?_; rintro e W5 ⟨rfl, t5, o5⟩; have q5 := rowIs_only qd o5 hq.2.1.symm; have db5 := sd.dbO o5)
              | (go_at_call 17; refine (doc_put db5 (V k 1) HX.out H7.out).mono ?_; rintro e W7 ⟨rfl, d7, o7⟩; have s7 := sd.both t5 o5 d7 o7 hcl7; have q7 := rowIs_only q5 o7 hq.2.2.symm))
          clear db5 t5 o5 d7 o7 q5 sd qd sn qn e1
          go_wp2_with fail
          all_goals
            go_meet
            exact ⟨_, _, _, rfl, rfl, s7, q7⟩
        · have q1 : (V k 0 == 1) = false := beq_eq_false_iff_ne.2 hk1
          clear hk1
          rcases Decidable.em (V k 0 = 2) with hk2 | hk2
          · have q2 : (V k 0 == 2) = true := by rw [hk2]; rfl
            clear hk2
            obtain ⟨x, hx⟩ : ∃ x, takeE N Wd (V k 1) = x := ⟨_, rfl⟩
            obtain ⟨W7d, h7⟩ : ∃ W7d, (if x = 0 then takeW Wd (V k 1).toNat else Wd) = W7d := ⟨_, rfl⟩
            have HX := Lib.hid hx
            have H7 := Lib.hid h7
            have hcl7 : Clean W7d N := by have := clean_take sn.cl (V k 1); rw [hx, h7] at this; exact this
            clear hx h7 e2
            go_wp2_with fail
            have sd := sn.below (Below.refl W4.heap.size W4).drew
            have qd := rowIs_below qn (Below.refl W4.heap.size W4).drew
            go_region_held3 (fun w' => w'.cell? ⟨Q, 1, none⟩ = some (.int .i64 (V k 1)))
              (first | exact box_at q7 (j := 1) (by omega) | exact box_at q5 (j := 1) (by omega) | go_keep)
              (first
                | (go_at_call 14; refine (take_st sd.st (V k 1) HX.out H7.out).mono ?_; rintro e W5 ⟨rfl, t5, o5⟩; have q5 := rowIs_only qd o5 hq.2.1.symm; have db5 := sd.dbO o5)
                | (go_at_call 18; refine (doc_take db5 (V k 1) HX.out H7.out).mono ?_; rintro e W7 ⟨rfl, d7, o7⟩; have s7 := sd.both t5 o5 d7 o7 hcl7; have q7 := rowIs_only q5 o7 hq.2.2.symm))
            clear db5 t5 o5 d7 o7 q5 sd qd sn qn e1
            go_wp2_with fail
            all_goals
              go_meet
              exact ⟨_, _, _, rfl, rfl, s7, q7⟩
          · have q2 : (V k 0 == 2) = false := beq_eq_false_iff_ne.2 hk2
            clear hk2
            rcases Decidable.em (V k 0 = 3) with hk3 | hk3
            · have q3 : (V k 0 == 3) = true := by rw [hk3]; rfl
              clear hk3
              clear e2
              go_wp2_with fail
              refine (free_st sn.st (V k 1) hf1).mono ?_
              rintro e W5 ⟨r1, hr1, rfl, rfl⟩
              rw [told_eq]
              go_wp2_with fail
              refine (doc_run sn.db (V k 1) 1 false hf1).mono ?_
              rintro e W5 ⟨r2, hr2, rfl, rfl⟩
              obtain rfl := free_doc hr1 hr2
              rw [told_eq]
              clear hr1 hr2
              generalize atI r1 = x1 at *
              generalize r1.isSome = ok1 at *
              have qx : (x1 == x1) = true := by simp
              have qo : (ok1 == ok1) = true := by simp
              have s7 := sn
              have q7 := qn
              clear sn qn e1
              cases ok1
              all_goals go_wp2_with fail
              all_goals
                go_meet
                exact ⟨_, _, _, rfl, rfl, s7, q7⟩
            · have q3 : (V k 0 == 3) = false := beq_eq_false_iff_ne.2 hk3
              clear hk3
              rcases Decidable.em (V k 0 = 4) with hk4 | hk4
              · have q4 : (V k 0 == 4) = true := by rw [hk4]; rfl
                clear hk4
                clear e2
                go_wp2_with fail
                refine (next_st sn.st (V k 1) hf1).mono ?_
                rintro e W5 ⟨r1, hr1, rfl, rfl⟩
                rw [told_eq]
                go_wp2_with fail
                refine (doc_run sn.db (V k 1) 1 true hf1).mono ?_
                rintro e W5 ⟨r2, hr2, rfl, rfl⟩
                obtain rfl := next_doc hr1 hr2
                rw [told_eq]
                clear hr1 hr2
                generalize atI r1 = x1 at *
                generalize r1.isSome = ok1 at *
                have qx : (x1 == x1) = true := by simp
                have qo : (ok1 == ok1) = true := by simp
                have s7 := sn
                have q7 := qn
                clear sn qn e1
                cases ok1
                all_goals go_wp2_with fail
                all_goals
                  go_meet
                  exact ⟨_, _, _, rfl, rfl, s7, q7⟩
              · have q4 : (V k 0 == 4) = false := beq_eq_false_iff_ne.2 hk4
                clear hk4
                rcases Decidable.em (V k 0 = 5) with hk5 | hk5
                · have q5 : (V k 0 == 5) = true := by rw [hk5]; rfl
                  clear hk5
                  cases hbc : decide (300 < N ∧ 300 < V k 2)
                  case' true =>
                    have hb := of_decide_eq_true hbc
                    have d1 : decide ((300 : Int) < (N : Int)) = true := by simp; omega
                    have d1' : decide (300 < N) = true := by simp; omega
                    have d2 : decide (300 < V k 2) = true := by simp; omega
                    have HC := Lib.hid sn
                    clear sn qn e1 hbc
                    go_wp2_with fail
                    go_roundw
                    case rel => exact ⟨k + 1, D, b, Wd, by omega, rfl, by go_num, HC.out⟩
                    case measure => simp [intOf]; omega
                  case' false =>
                    have hb := of_decide_eq_false hbc
                    clear hbc
                    cases hb1 : decide (300 < N)
                    case' true =>
                      have hb2 := of_decide_eq_true hb1
                      have d1 : decide ((300 : Int) < (N : Int)) = true := by simp; omega
                      have d2 : decide (300 < V k 2) = false := by simp; omega
                    case' false =>
                      have hb2 := of_decide_eq_false hb1
                      have d1 : decide ((300 : Int) < (N : Int)) = false := by simp; omega
                  all_goals
                    go_wp2_with fail
                    refine (run_st sn.st (V k 1) (V k 2) hf1).mono ?_
                    rintro e W5 ⟨r1, hr1, rfl, rfl⟩
                    rw [told_eq]
                    go_wp2_with fail
                    refine (doc_run sn.db (V k 1) (V k 2) false hf1).mono ?_
                    rintro e W5 ⟨r2, hr2, rfl, rfl⟩
                    obtain rfl := run_doc hr1 hr2
                    rw [told_eq]
                    clear hr1 hr2
                    generalize atI r1 = x1 at *
                    generalize r1.isSome = ok1 at *
                    have qx : (x1 == x1) = true := by simp
                    have qo : (ok1 == ok1) = true := by simp
                    have s7 := sn
                    have q7 := qn
                    clear sn qn e1 e2
                    cases ok1
                    all_goals go_wp2_with fail
                  all_goals
                    go_meet
                    exact ⟨_, _, _, rfl, rfl, s7, q7⟩
                · have q5 : (V k 0 == 5) = false := beq_eq_false_iff_ne.2 hk5
                  clear hk5
                  rcases Decidable.em (V k 0 = 6) with hk6 | hk6
                  · have q6 : (V k 0 == 6) = true := by rw [hk6]; rfl
                    clear hk6
                    go_wp2_with fail
                    refine (copy_st sn.st).mono ?_
                    rintro e W5 ⟨D7, b7, rfl, hD7, hb7, t7, b5⟩
                    have s5 := sn.below b5
                    have q5 := rowIs_below qn b5
                    have e1' := box_at q5 (j := 1) (by omega)
                    have lD := sn.st.ltD
                    have lb := sn.st.geb
                    have hlb5 := s5.st.geb.1
                    clear e1 e2
                    go_wp2_with fail
                    refine (put_st s5.st (V k 1) rfl rfl).mono ?_
                    rintro e W6 ⟨rfl, t6, o6⟩
                    have q6 := rowIs_only q5 o6 hq.2.1.symm
                    have t76 := t7.onlyO o6 ⟨by omega, by omega⟩ hlb5
                    have db6 := s5.dbO o6
                    have e2' := box_at q6 (j := 2) (by omega)
                    clear e1'
                    go_wp2_with fail
                    refine (take_st t6 (V k 2) rfl rfl).mono ?_
                    rintro e W7 ⟨rfl, t8, o8⟩
                    have q7 := rowIs_only q6 o8 hq.2.1.symm
                    have t77 := t76.onlyO o8 ⟨by omega, by omega⟩ hlb5
                    have db7 := db6.only o8 s5.ne.2.symm
                    have s7 : PW w W7 D7 b7 X N Wd := ⟨t77, db7, s5.cl⟩
                    clear e2' t77 db7 t76 db6 t6 t7 t8 o6 o8 s5 sn q5 q6 qn
                    go_wp2_with fail
                    all_goals
                      go_meet
                      exact ⟨_, _, _, rfl, rfl, s7, q7⟩
                  · have q6 : (V k 0 == 6) = false := beq_eq_false_iff_ne.2 hk6
                    clear hk6
                    clear e2
                    go_wp2_with fail
                    have HQ1 := Lib.hid (fun d => box_at (rowIs_drewN qn d) (j := 1) (by omega))
                    have HH := Lib.hid (fun (W : World) (k' : Below W4.heap.size W4 W) => has_st (sn.below k').st (V k 1) rfl)
                    have HDH := Lib.hid (fun (W : World) (k' : Below W4.heap.size W4 W) => doc_has (sn.below k').db (V k 1))
                    have HB4 := Lib.hid (fun d => below_drewN (Below.refl W4.heap.size W4) d)
                    go_quiet ((first
                      | (go_at_call 13; exact Calls.quiet_of_same ((HH.out _ (HB4.out _)).mono fun _ _ ⟨he, hw⟩ => ⟨he, hw.symm⟩))
                      | (go_at_call 21; exact Calls.quiet_of_same ((HDH.out _ (HB4.out _)).mono fun _ _ ⟨he, hw⟩ => ⟨he, hw.symm⟩))))
                    have s7 := sn.below (HB4.out nq)
                    have q7 := rowIs_below qn (HB4.out nq)
                    clear HQ1 HH HDH HB4 sn qn e1
                    generalize W4.drewN nq = W7 at *
                    go_wp2_with fail
                    all_goals
                      go_meet
                      exact ⟨_, _, _, rfl, rfl, s7, q7⟩
      case rest =>
        clear sn qn e1 e2
        obtain ⟨D7, b7, W7d, rfl, rfl, s7, q7⟩ := hcut
        go_wp2_with fail
        refine (same_any s7.st s7.db s7.cl).mono ?_
        rintro e W8 ⟨rfl, b8⟩
        have s8 := s7.below b8
        clear s7 q7 b8
        go_wp2_with fail
        go_roundw
        case rel => exact ⟨k + 1, _, _, _, by omega, rfl, by go_num, s8⟩
        case measure => simp [intOf]; omega
    · have hkl : k = len := by omega
      subst hkl
      have HBL := Lib.hid s.st.below
      have hT2 := s.st.tab
      have h02 : 0 < wr.heap.size := by have := s.st.pos; have := s.st.below.size; omega
      go_wp2_with fail
      refine (known_any wr h02 hT2).mono ?_
      rintro e WF ⟨rfl, bF⟩
      go_wp2_with fail
      go_ret
      exact ⟨rfl, below_then HBL.out bF⟩
end Go.Proofs.YtcjlcbnjkkglbaaDoor
