/-
  The walk of the law RmapPlays.
-/
import Derived.Test.YtlnddehknpfliaaDoc
import Derived.Test.YtlnddehknpfliaaCopy
import Derived.Test.YtlnddehknpfliaaFill
import Derived.Test.YtlnddehknpfliaaOpsI
import Derived.Deep.RegionHeld3
import Derived.Deep.DeepCutAuto
import Derived.Deep.CutBlock
namespace Go.Proofs.Ytlnddehknpfliaa
open Go.RowKit
attribute [local go_sem] Oper.semAt_some

theorem frame_ofP (T : Array Value) (L : (Nat → Value) → Array Value) (h : T = L (fun i => T.getD i undef)) : ∃ u, T = L u := ⟨_, h⟩
theorem boxed_row {W : World} {b t : Nat} {v : Value} (h : Boxed W b t v) : W.rowIs b t 1 (fun _ => v) := by
  refine ⟨#[v], h, rfl, fun i hi => ?_⟩
  obtain rfl : i = 0 := by omega
  rfl
theorem TT.only1 {W W' : World} {base D F b n c : Nat} {f : Fr} (s : TT W base D F b n c f) {d : Nat} (k : Only W W' d) (h : D ≠ d ∧ F ≠ d ∧ b ≠ d) : TT W' base D F b n c f :=
  s.two (two_onlyF k d) ⟨h.1, h.1, h.2.1, h.2.1, h.2.2, h.2.2⟩
theorem TT.base' {W : World} {b0 b1 D F b n c : Nat} {f : Fr} (s : TT W b1 D F b n c f) (h : b0 ≤ b1) : TT W b0 D F b n c f := by
  refine ⟨s.srow, ⟨⟨s.own.own.1, ?_⟩, s.own.at_, fun b hb => ?_⟩, s.map, Nat.le_trans h s.mb, s.le, s.ok⟩
  · rcases s.own.own.2 with h1 | ⟨g, cap, cur, h1, h2, r⟩
    · exact .inl h1
    · exact .inr ⟨g, cap, cur, h1, by omega, r⟩
  · obtain ⟨h1, h2, h3⟩ := s.own.blk b hb
    exact ⟨h1, by omega, h3⟩
/-- The map at D, F, b; the document's at R, X; the law's own boxes; the marks of loops that are over. -/
structure LP (w W : World) (stop : Int) (N D F b c : Nat) (f : Fr) (R X : Nat) (f2 : Fr) (Ds : List Nat) : Prop where
  st : St w W D F b N c f
  ds : DS W w.heap.size R X N f2
  ownR : w.heap.size ≤ R
  sb : Boxed W w.heap.size 3 (.int .i64 stop)
  rb : Boxed W (w.heap.size + 1) 4 (.bool false)
  mks : Marks w.heap.size W Ds
section
variable {w W W' : World} {stop : Int} {N D F b c R X : Nat} {f f2 : Fr} {Ds : List Nat}
theorem LP.below (s : LP w W stop N D F b c f R X f2 Ds) (k : Below W.heap.size W W') : LP w W' stop N D F b c f R X f2 Ds :=
  ⟨s.st.belowW k, s.ds.below k, s.ownR, boxed_below s.sb k, boxed_below s.rb k, s.mks.below k⟩
theorem LP.stepD (s : LP w W stop N D F b c f R X f2 Ds) {Z : Nat} (k : Step Z W W') (hb : b < Z) (hZ : w.heap.size ≤ Z) (hD : ∀ D ∈ Ds, D < Z) : LP w W' stop N D F b c f R X f2 Ds :=
  ⟨s.st.step k hb hZ, ⟨rowIs_step s.ds.row k, s.ds.own.step k, s.ds.le, s.ds.ok⟩, s.ownR, boxed_step s.sb k, boxed_step s.rb k,
    ⟨fun D h => ⟨(s.mks.lay D h).1, ((k.below (B' := D + 1) (hD D h) (s.mks.lt h)).block D (Nat.lt_succ_self D)).trans (s.mks.lay D h).2⟩, s.mks.nd⟩⟩
structure LPne (w : World) (D F b R X : Nat) : Prop where
  dx : D ≠ X
  fr : F ≠ R
  br : b ≠ R
  fx : F ≠ X
  bx : b ≠ X
  b0 : D ≠ w.heap.size ∧ F ≠ w.heap.size ∧ b ≠ w.heap.size ∧ R ≠ w.heap.size ∧ X ≠ w.heap.size
  b1 : D ≠ w.heap.size + 1 ∧ F ≠ w.heap.size + 1 ∧ b ≠ w.heap.size + 1 ∧ R ≠ w.heap.size + 1 ∧ X ≠ w.heap.size + 1
theorem LP.nes (s : LP w W stop N D F b c f R X f2 Ds) : LPne w D F b R X := by
  have hb1 := boxed_row s.sb
  have hb2 := boxed_row s.rb
  exact ⟨fun e => s.ds.own.ne s.st.tt.srow (by decide) (by simp) e.symm, s.st.tt.own.ne s.ds.row (by decide) (by simp), s.st.tt.map.ne_row s.ds.row, s.st.tt.own.ne_own s.ds.own (by decide) (by simp) (by simp), s.st.tt.map.ne_own s.ds.own (by simp),
    ⟨rowIs_ne s.st.tt.srow hb1 (by decide), s.st.tt.own.ne hb1 (by decide) (by simp), s.st.tt.map.ne_row hb1, rowIs_ne s.ds.row hb1 (by decide), s.ds.own.ne hb1 (by decide) (by simp)⟩,
    ⟨rowIs_ne s.st.tt.srow hb2 (by decide), s.st.tt.own.ne hb2 (by decide) (by simp), s.st.tt.map.ne_row hb2, rowIs_ne s.ds.row hb2 (by decide), s.ds.own.ne hb2 (by decide) (by simp)⟩⟩
/-- The map has turned. -/
theorem LP.onT (s : LP w W stop N D F b c f R X f2 Ds) {f' : Fr} (t : St w W' D F b N c f') (k : Two W W' F b) : LP w W' stop N D F b c f' R X f2 Ds :=
  have h := s.nes
  ⟨t, s.ds.two k ⟨h.fr.symm, h.br.symm, h.fx.symm, h.bx.symm⟩, s.ownR, boxed_two s.sb k h.b0.2.1.symm h.b0.2.2.1.symm, boxed_two s.rb k h.b1.2.1.symm h.b1.2.2.1.symm, s.st.tt.marks s.mks k⟩
/-- The document's pages have turned. -/
theorem LP.onX (s : LP w W stop N D F b c f R X f2 Ds) {f' : Fr} (t : DS W' w.heap.size R X N f') (k : Only W W' X) : LP w W' stop N D F b c f R X f' Ds :=
  have h := s.nes
  ⟨⟨s.st.tt.only1 k ⟨h.dx, h.fx, h.bx⟩, below_only s.st.below k s.ds.ltX.1, s.st.own⟩, t, s.ownR, boxed_only s.sb k h.b0.2.2.2.2.symm, boxed_only s.rb k h.b1.2.2.2.2.symm, s.mks.only k (fun o ho => by
    obtain ⟨h1, h2 | ⟨g, cap, cur, h2, _, hg, _⟩⟩ := s.ds.own.own
    · cases h2.1
    · cases h2; rw [hg] at ho; cases ho; rfl)⟩
/-- Another map goes on. -/
theorem LP.swap (s : LP w W stop N D F b c f R X f2 Ds) {D' F' b' c' : Nat} {f' : Fr} (t : St w W D' F' b' N c' f') : LP w W stop N D' F' b' c' f' R X f2 Ds := ⟨t, s.ds, s.ownR, s.sb, s.rb, s.mks⟩
/-- A box of the law's own, made in this round, has turned. -/
theorem LP.onNew (s : LP w W stop N D F b c f R X f2 Ds) {W0 : World} (s0 : LP w W0 stop N D F b c f R X f2 Ds) {d : Nat} (hd : W0.heap.size ≤ d) (k : Only W W' d) (hc : ∀ o : Obj, W.heap[d]? = some o → o.isCells = true) : LP w W' stop N D F b c f R X f2 Ds := by
  have h1 := s0.st.tt.srow.lt
  have h2 := s0.st.tt.ltF.2
  have h2' := s0.st.tt.ltb.2
  have h3 := s0.ds.row.lt
  have h4 := s0.ds.ltX.2
  have h5 := s0.rb.lt
  have h6 := s0.st.below.size
  exact ⟨⟨s.st.tt.only1 k ⟨by omega, by omega, by omega⟩, below_only s.st.below k (by omega), s.st.own⟩, s.ds.only k (by omega) (by omega), s.ownR, boxed_only s.sb k (by omega), boxed_only s.rb k (by omega), s.mks.only k hc⟩
/-- A box of the law's own of the pages' type has turned. -/
theorem LP.onZ (s : LP w W stop N D F b c f R X f2 Ds) {Z : Nat} {fz : Nat → Value} {m : Nat} (z : W.rowIs Z 46 m fz) (hX : X ≠ Z) (hZ : w.heap.size ≤ Z) (k : Only W W' Z) : LP w W' stop N D F b c f R X f2 Ds :=
  ⟨⟨s.st.tt.only1 k ⟨rowIs_ne s.st.tt.srow z (by decide), s.st.tt.own.ne z (by decide) (by simp), s.st.tt.map.ne_row z⟩, below_only s.st.below k hZ, s.st.own⟩, s.ds.only k (rowIs_ne s.ds.row z (by decide)) hX, s.ownR,
    boxed_only s.sb k (boxed_ne s.sb z (by decide)), boxed_only s.rb k (boxed_ne s.rb z (by decide)), s.mks.only k (rowIs_cells z)⟩
theorem LP.mark (s : LP w W stop N D F b c f R X f2 Ds) {W0 : World} (m0 : Marks w.heap.size W0 Ds) (h0 : w.heap.size ≤ W0.heap.size) {K : Nat} (hD : W0.heap.size ≤ K) (hk : W.heap[K]? = some (.deferred (some []))) : LP w W stop N D F b c f R X f2 (K :: Ds) :=
  ⟨s.st, s.ds, s.ownR, s.sb, s.rb, s.mks.push' m0 h0 hD hk⟩
end
theorem rowIs_two {w w' : World} {b t n F d : Nat} {f : Nat → Value} (r : w.rowIs b t n f) (h : Two w w' F d) (h1 : b ≠ F) (h2 : b ≠ d) : w'.rowIs b t n f := r.of_block (h.block b r.lt h1 h2)
/-- The worlds of a process' round. -/
structure PL (w W : World) (stop : Int) (N D F b c : Nat) (f : Fr) (R X : Nat) (Ds : List Nat) (A K : Nat) (a8 : Option Addr) (U c8 g8 : Nat) (w0 : World) (L pre : List (Nat × Nat)) : Prop where
  lp : LP w W stop N D F b c f R X f Ds
  aB : Boxed W A 47 (.slice a8 U c8)
  oB : OwnAt W w0.heap.size 49 2 a8 U c8 g8 (cellsL L)
  kB : Boxed W K 3 (.int .i64 (pre.length : Int))
  hp : pre <+: L
theorem PL.step {w W W' : World} {stop : Int} {N D F b c : Nat} {f : Fr} {R X : Nat} {Ds : List Nat} {A K : Nat} {a8 : Option Addr} {U c8 g8 : Nat} {w0 : World} {L pre : List (Nat × Nat)} {B : Nat}
    (h : PL w W stop N D F b c f R X Ds A K a8 U c8 g8 w0 L pre) (st : Step B W W') (hb : b < B) (hw : w.heap.size ≤ B) (hD : ∀ D ∈ Ds, D < B) : PL w W' stop N D F b c f R X Ds A K a8 U c8 g8 w0 L pre :=
  ⟨h.lp.stepD st hb hw hD, boxed_step h.aB st, h.oB.step st, boxed_step h.kB st, h.hp⟩
/-- An op, copied. -/
def boxV (V : Nat → Int) (i : Nat) : Value := .int .i64 (V i)
theorem box_at {W : World} {Q : Nat} {V : Nat → Int} (h : W.rowIs Q 25 4 (boxV V)) {j : Nat} (hj : j < 4) : W.cell? ⟨Q, j, none⟩ = some (.int .i64 (V j)) := h.cell hj
theorem box_new (W : World) (V : Nat → Int) : (W.alloc (.cells #[.int .i64 (V 0), .int .i64 (V 1), .int .i64 (V 2), .int .i64 (V 3)] 25)).rowIs W.heap.size 25 4 (boxV V) :=
  World.rowIs_alloc W #[.int .i64 (V 0), .int .i64 (V 1), .int .i64 (V 2), .int .i64 (V 3)] 25 (boxV V) (fun i hi => by
    rcases (show i = 0 ∨ i = 1 ∨ i = 2 ∨ i = 3 by simp at hi; omega) with rfl | rfl | rfl | rfl <;> rfl)
set_option maxRecDepth 100000 in
set_option maxHeartbeats 8000000 in
theorem plays_any (n stop : Int) (a : Option Addr) (len cap bo off : Nat) (V : Nat → Nat → Int) (w : World) (o : OpsI w a len bo off 4 V) (hlen : len ≤ 9223372036854775807) :
    Calls Try.prog 6 #[.int .i64 n, .slice a len cap, .int .i64 stop] w fun e w' => e = .returned (.bool true) ∧ Below w.heap.size w w' := by
  refine calls_of_wp_marks Try.func6 rfl ?_
  simp only [Try.ntmps6, List.size_toArray, List.length_cons, List.length_nil, Nat.reduceAdd, Nat.reduceSub, Array.replicate_succ, Array.replicate_zero, List.push_toArray, List.append_toArray, List.nil_append, List.cons_append]
  have sb0 : Boxed ((w.alloc (.cells #[.int .i64 stop] 3)).alloc (.cells #[.bool false] 4)) w.heap.size 3 (.int .i64 stop) := (Boxed.new w 3 _).alloc _
  have rb0 := Boxed.new (w.alloc (.cells #[.int .i64 stop] 3)) 4 (.bool false)
  rw [World.size_alloc] at rb0
  have bl0 : Below w.heap.size w ((w.alloc (.cells #[.int .i64 stop] 3)).alloc (.cells #[.bool false] 4)) := below_alloc (below_new _ _) _
  by_cases hbad : 150 < len ∨ (¬ 150 < len ∧ 60 < n ∧ n ≤ 1024)
  · rcases hbad with h | ⟨h, h1, h2⟩
    case' inr => have d1 : decide ((150 : Int) < (len : Int)) = false := by simp; omega
    all_goals
      go_wp2_with fail
      generalize (w.alloc (.cells #[.int .i64 stop] 3)).alloc (.cells #[.bool false] 4) = W0 at *
      refine (known_any W0).mono ?_
      rintro e WF ⟨rfl, bF⟩
      have rF := boxed_below rb0 bF
      have hc := rF.cell
      have hf := rF.frozen
      have bl1 := below_then bl0 bF
      go_wp2_with fail
      refine leaves_marks (B := w.heap.size) [] _ ?_ ((marks_nil _ _).set _ _) ?_
      · have := bl1.size; simpa [World.setCell] using this
      · intro w' sh
        have hc' := shut_cell sh (rF.set (.bool true)).cell
        exact ⟨_, by simp [results, Try.results6, go_sem, hc'], rfl, (bl1.setCell (p := ⟨w.heap.size + 1, 0, none⟩) (by simp) _).trans sh.below⟩
  have d1 : decide ((150 : Int) < (len : Int)) = false := by simp; omega
  have d3 : decide (150 < len) = false := by simp; omega
  go_upto_region 1 with fail
  generalize (w.alloc (.cells #[.int .i64 stop] 3)).alloc (.cells #[.bool false] 4) = W0 at *
  go_cut [32] from 22 to 32 (fun c wx => c = .bool false ∧ wx = W0)
  case first =>
    rcases (show n ≤ 60 ∨ (60 < n ∧ 1024 < n) by omega) with hn60 | ⟨hn60, hn1024⟩
    case' inl => have d4 : decide (60 < n) = false := by simp; omega
    case' inr =>
      have d4 : decide (60 < n) = true := by simp; omega
      have d5 : decide (n ≤ 1024) = false := by simp; omega
    all_goals
      go_wp2_with fail
      go_meet
      exact ⟨rfl, rfl⟩
  case rest =>
    obtain ⟨rfl, rfl⟩ := hcut
    go_wp2_with fail
    refine (new_st bl0 n rfl).mono ?_
    rintro e W1 ⟨rfl, s1, b1⟩
    have hN := clampN_le n
    have hz0 := bl0.size
    have sb1 := boxed_below sb0 b1
    have rb1 := boxed_below rb0 b1
    go_wp2_with fail
    refine (doc_new n W1).mono ?_
    rintro e W2 ⟨rfl, rfl⟩
    have b2 := below_newD W1 (clampN n)
    have d2 := ds_new (w0 := w) W1 s1.below.size (clampN n) hN
    have hz1 := s1.below.size
    have s2 : LP w (newD W1 (clampN n)) stop (clampN n) (wc.heap.size + 2) wc.heap.size (wc.heap.size + 1) (clampN n) none0 (W1.heap.size + 1) W1.heap.size none0 [] :=
      ⟨s1.belowW b2, d2, by omega, boxed_below sb1 b2, boxed_below rb1 b2, marks_nil _ _⟩
    generalize newD W1 (clampN n) = W2 at *
    generalize W1.heap.size + 1 = R at *
    generalize W1.heap.size = X at *
    generalize wc.heap.size + 2 = D0 at *
    generalize wc.heap.size + 1 = b0 at *
    generalize wc.heap.size = F0 at *
    generalize clampN n = N at *
    clear d2 b2 b1 s1 bl0 sb0 rb0 sb1 rb1
    have r0 := s2.ds.r0
    have hN2 : (N : Int) ≤ 1024 := by omega
    go_wp2_with fail
    go_quiet ((go_at_call 12; refine Calls.quiet_of_same ((frames_any (s2.below (below_drewN (Below.refl _ _) _)).st.tt).mono fun _ _ ⟨he, hw⟩ => ⟨he, hw.symm⟩)))
    have s3 := s2.below (below_drewN (Below.refl _ _) nq)
    generalize W2.drewN nq = W3 at *
    clear s2 r0 d1 d3
    go_wp2_with fail
    go_loopw [7, 48] (fun m v wr => ∃ (k D F b c : Nat) (f : Fr), k ≤ len ∧ m = .pointer (some ⟨D, 0, none⟩) ∧ v = .int .i64 k ∧ LP w wr stop N D F b c f R X f []) (fun _ v _ => len - (intOf v).toNat)
    case atStart => exact ⟨0, D0, F0, b0, N, none0, Nat.zero_le _, rfl, rfl, s3⟩
    case round =>
      clear s3
      obtain ⟨k, D, F, b, c, f, hk, rfl, rfl, s⟩ := hrel
      by_cases hlt : k < len
      · have o' := o.below s.st.below
        have ck := o'.c0 hlt (by omega)
        have c1 := o'.cell k hlt 1 (by omega)
        have c2 := o'.cell k hlt 2 (by omega)
        have c3 := o'.cell k hlt 3 (by omega)
        obtain rfl := o.at_ (by omega)
        have bn := below_new wr (.cells #[.int .i64 (V k 0), .int .i64 (V k 1), .int .i64 (V k 2), .int .i64 (V k 3)] 25)
        have sn := s.below bn
        have qn := box_new wr (V k)
        have hQ0 : w.heap.size ≤ wr.heap.size := s.st.below.size
        clear bn o'
        have d0 := box_at qn (j := 0) (by omega)
        go_upto_block 2 with fail
        generalize wr.heap.size = Q at *
        generalize wr.alloc (.cells #[.int .i64 (V k 0), .int .i64 (V k 1), .int .i64 (V k 2), .int .i64 (V k 3)] 25) = W4 at *
        have e1 := box_at qn (j := 1) (by omega)
        have e2 := box_at qn (j := 2) (by omega)
        have e3 := box_at qn (j := 3) (by omega)
        clear d0
        go_cut [7] from 57 to 104 (fun s7 wx => ∃ (D7 F7 b7 c7 : Nat) (f7 : Fr), s7 = .pointer (some ⟨D7, 0, none⟩) ∧ LP w wx stop N D7 F7 b7 c7 f7 R X f7 [] ∧ wx.rowIs Q 25 4 (boxV (V k)))
        case first =>
          rcases Decidable.em (V k 0 = 0) with hk0 | hk0
          case' inl =>
            have q0 : (V k 0 == 0) = true := by rw [hk0]; rfl
            have q1 : (V k 0 == 1) = false := by rw [hk0]; rfl
            have q2 : (V k 0 == 2) = false := by rw [hk0]; rfl
            clear hk0
            obtain ⟨x, f7, hx⟩ : ∃ x f7, setF N f (V k 1) (V k 2, V k 3) = (x, f7) := ⟨_, _, rfl⟩
            have HX := Lib.hid hx
            clear hx
            go_wp2_with fail
            have sd := sn.below (Below.refl W4.heap.size W4).drew
            have qd := rowIs_below qn (Below.refl W4.heap.size W4).drew
            go_region_held3 (fun w' => w'.cell? ⟨Q, 1, none⟩ = some (.int .i64 (V k 1)) ∧ w'.cell? ⟨Q, 2, none⟩ = some (.int .i64 (V k 2)) ∧ w'.cell? ⟨Q, 3, none⟩ = some (.int .i64 (V k 3)))
              (first | exact ⟨box_at q7 (j := 1) (by omega), box_at q7 (j := 2) (by omega), box_at q7 (j := 3) (by omega)⟩ | exact ⟨box_at q5 (j := 1) (by omega), box_at q5 (j := 2) (by omega), box_at q5 (j := 3) (by omega)⟩ | go_keep)
              (first
                | (go_at_call 10; refine (set_st sd.st (V k 1) (V k 2) (V k 3) HX.out).mono ?_; rintro e W5 ⟨rfl, t5, o5⟩; have s5 := sd.onT t5 o5; have q5 := rowIs_two qd o5 (fun e => sd.st.tt.own.ne qd (by decide) (by simp) e.symm) (fun e => sd.st.tt.map.ne_row qd e.symm))
                | (go_at_call 16; have hd := doc_set s5.ds (V k 1) (V k 2) (V k 3); rw [HX.out] at hd; refine hd.mono ?_; rintro e W7 ⟨rfl, t7, o7⟩; have s7 := s5.onX t7 o7; have q7 := rowIs_only q5 o7 (fun e => OwnAt.ne s5.ds.own q5 (by decide) (by simp) e.symm)))
            clear hd t5 t7 o5 o7 q5 s5 sn qn sd qd e1 e2 e3
            go_wp2_with fail
          case' inr =>
            have q0 : (V k 0 == 0) = false := beq_eq_false_iff_ne.2 hk0
            clear hk0
            rcases Decidable.em (V k 0 = 1) with hk1 | hk1
            case' inl =>
              have q1 : (V k 0 == 1) = true := by rw [hk1]; rfl
              have q2 : (V k 0 == 2) = false := by rw [hk1]; rfl
              clear hk1
              obtain ⟨y, f7, hx⟩ : ∃ y f7, clearF N f (V k 1) = (y, f7) := ⟨_, _, rfl⟩
              have HX := Lib.hid hx
              clear hx
              go_wp2_with fail
              have sd := sn.below (Below.refl W4.heap.size W4).drew
              have qd := rowIs_below qn (Below.refl W4.heap.size W4).drew
              go_region_held3 (fun w' => w'.cell? ⟨Q, 1, none⟩ = some (.int .i64 (V k 1)))
                (first | exact box_at q7 (j := 1) (by omega) | exact box_at q5 (j := 1) (by omega) | go_keep)
                (first
                  | (go_at_call 11; refine (clear_st sd.st (V k 1) HX.out).mono ?_; rintro e W5 ⟨rfl, t5, o5⟩; have s5 := sd.onT t5 o5; have q5 := rowIs_two qd o5 (fun e => sd.st.tt.own.ne qd (by decide) (by simp) e.symm) (fun e => sd.st.tt.map.ne_row qd e.symm))
                  | (go_at_call 17; have hd := doc_clear s5.ds (V k 1); rw [HX.out] at hd; refine hd.mono ?_; rintro e W7 ⟨rfl, t7, o7⟩; have s7 := s5.onX t7 o7; have q7 := rowIs_only q5 o7 (fun e => OwnAt.ne s5.ds.own q5 (by decide) (by simp) e.symm)))
              clear hd t5 t7 o5 o7 q5 s5 sn qn sd qd e1 e2 e3
              go_wp2_with fail
            case' inr =>
              have q1 : (V k 0 == 1) = false := beq_eq_false_iff_ne.2 hk1
              clear hk1
              rcases Decidable.em (V k 0 = 2) with hk2 | hk2
              case' inl =>
                have q2 : (V k 0 == 2) = true := by rw [hk2]; rfl
                clear hk2
                go_wp2_with fail
                refine (copy_any sn.st.tt).mono ?_
                rintro e W5 ⟨D7, F7, b7, c7, rfl, hD7, tt7, b5⟩
                have s5 := sn.below b5
                have q5 := rowIs_below qn b5
                have hF7 := tt7.ltF.1
                have hb7 := tt7.ltb.1
                have hFl := sn.st.tt.ltF.2
                have hbl := sn.st.tt.ltb.2
                have hDl := sn.st.tt.srow.lt
                have hw4 := sn.st.below.size
                have tt8 := tt7.base' hw4
                have r0 := s5.ds.r0
                have hD8 : w.heap.size ≤ D7 := by omega
                clear sn qn tt7 e1 e2 e3
                go_wp2_with fail
                go_loopw [96] (fun i wr => ∃ (j : Nat) (fx : Fr), j ≤ N ∧ i = .int .i64 j ∧ LP w wr stop N D F b c fx R X f [] ∧ TT wr w.heap.size D7 F7 b7 N c7 f ∧ wr.rowIs Q 25 4 (boxV (V k))) (fun i _ => N - (intOf i).toNat)
                case atStart => exact ⟨0, f, Nat.zero_le _, rfl, s5, tt8, q5⟩
                case' round =>
                  clear s5 q5 r0 tt8
                  obtain ⟨j, fx, hj, rfl, s5, tt8, q5⟩ := hrel
                  rcases Decidable.em (j < N) with hjn | hjn
                  case inl =>
                    go_wp2_with fail
                    refine (clear_st s5.st (j : Int) rfl).mono ?_
                    rintro e W6 ⟨rfl, t6, o6⟩
                    have s6 := s5.onT t6 o6
                    have tt9 := tt8.two o6 ⟨by omega, by omega, by omega, by omega, by omega, by omega⟩
                    have q6 := rowIs_two q5 o6 (fun e => s5.st.tt.own.ne q5 (by decide) (by simp) e.symm) (fun e => s5.st.tt.map.ne_row q5 e.symm)
                    go_wp2_with fail
                    go_roundw
                    case rel => exact ⟨j + 1, _, by omega, by go_num, s6, tt9, q6⟩
                    case measure => simp [intOf]; omega
                  case' inr =>
                    have s7 := s5.swap ⟨tt8, s5.st.below, hD8⟩
                    have q7 := q5
                    clear s5 tt8 q5
                    obtain ⟨f7, rfl⟩ : ∃ f7 : Fr, f7 = f := ⟨_, rfl⟩
                    go_wp2_with fail
              case' inr =>
                have q2 : (V k 0 == 2) = false := beq_eq_false_iff_ne.2 hk2
                clear hk2 e1 e2 e3
                go_wp2_with fail
                have s7 := sn
                have q7 := qn
                clear sn qn
                obtain ⟨f7, rfl⟩ : ∃ f7 : Fr, f7 = f := ⟨_, rfl⟩
          all_goals
            go_meet
            exact ⟨_, _, _, _, _, rfl, s7, q7⟩
        case rest =>
          clear sn qn e1 e2 e3
          obtain ⟨D7, F7, b7, c7, f7, rfl, s7, q7⟩ := hcut
          have d1 := box_at q7 (j := 1) (by omega)
          go_wp2_with fail
          clear d1
          obtain ⟨p, hp⟩ : ∃ p, getF N f7 (V k 1) = p := ⟨_, rfl⟩
          have HP := Lib.hid hp
          clear hp
          refine (get_st s7.st (V k 1) HP.out).mono ?_
          rintro e W8 ⟨rfl, -, b8⟩
          have s8 := s7.below b8
          have q8 := rowIs_below q7 b8
          clear s7 q7 b8
          go_upto_region 28 with fail
          have z0 := World.rowIs_alloc W8 #[.int .i64 0, .int .i64 0] 46 (fun _ => .int .i64 0) (fun i hi => by
            rcases (show i = 0 ∨ i = 1 by simp at hi; omega) with rfl | rfl <;> rfl)
          have s9 := s8.below (below_new W8 (.cells #[.int .i64 0, .int .i64 0] 46))
          have q9 := rowIs_below q8 (below_new W8 (.cells #[.int .i64 0, .int .i64 0] 46))
          have hZ0 : w.heap.size ≤ W8.heap.size := s8.st.below.size
          have hZX : X < W8.heap.size := s8.ds.ltX.2
          clear s8 q8
          generalize W8.heap.size = Z at *
          generalize W8.alloc (.cells #[.int .i64 0, .int .i64 0] 46) = W9 at *
          go_cut [125] from 113 to 124 (fun c wx => c = .bool (!badI N (V k 1)) ∧ LP w wx stop N D7 F7 b7 c7 f7 R X f7 [] ∧ wx.rowIs Q 25 4 (boxV (V k)) ∧ wx.rowIs Z 46 2 (fun _ => .int .i64 0))
          case first =>
            have d1 := box_at q9 (j := 1) (by omega)
            have r0 := s9.ds.r0
            cases hb : badI N (V k 1) with
            | true =>
              rcases badI_true hb with h | ⟨h1, h2⟩
              · have x1 : decide (0 ≤ V k 1) = false := by simp; omega
                have HB := Lib.hid hb
                clear hb
                go_quiet (fail)
                go_wp2_with fail
                go_meet
                exact ⟨by rw [HB.out]; rfl, s9.below (below_drewN (Below.refl _ _) _), rowIs_drewN q9 _, rowIs_drewN z0 _⟩
              · have x1 : decide (0 ≤ V k 1) = true := by simp; omega
                have x2 : decide (V k 1 < (N : Int)) = false := by simp; omega
                have HB := Lib.hid hb
                clear hb
                go_quiet (fail)
                go_wp2_with fail
                go_meet
                exact ⟨by rw [HB.out]; rfl, s9.below (below_drewN (Below.refl _ _) _), rowIs_drewN q9 _, rowIs_drewN z0 _⟩
            | false =>
              obtain ⟨h1, h2⟩ := badI_false hb
              have x1 : decide (0 ≤ V k 1) = true := by simp; omega
              have x2 : decide (V k 1 < (N : Int)) = true := by simp; omega
              have HB := Lib.hid hb
              clear hb
              go_quiet (fail)
              go_wp2_with fail
              go_meet
              exact ⟨by rw [HB.out]; rfl, s9.below (below_drewN (Below.refl _ _) _), rowIs_drewN q9 _, rowIs_drewN z0 _⟩
          case rest =>
            clear s9 q9 z0
            obtain ⟨rfl, s9, q9, z0⟩ := hcut
            go_upto_if 125 with fail
            go_cut [] from 125 to 133 (fun wx => LP w wx stop N D7 F7 b7 c7 f7 R X f7 [] ∧ wx.rowIs Q 25 4 (boxV (V k)) ∧ wx.rowIs Z 46 2 (fun i => .int .i64 (if i = 0 then p.1 else p.2)))
            case first =>
              cases hb : badI N (V k 1) with
              | true =>
                have hp0 : p = (0, 0) := by rw [← HP.out]; unfold getF; rw [hb]; rfl
                have HZ := Lib.hid (z0.congr (g := fun i => .int .i64 (if i = 0 then p.1 else p.2)) (fun i _ => by rw [hp0]; simp))
                clear hp0
                go_wp2_with fail
                go_meet
                exact ⟨s9, q9, HZ.out⟩
              | false =>
                obtain ⟨h1, h2⟩ := badI_false hb
                obtain ⟨x, hx⟩ := Int.eq_ofNat_of_zero_le h1
                have hxN : x < N := by omega
                have hp0 : p = f7 x := by rw [← HP.out]; unfold getF; rw [hb, hx]; simp
                have HX := Lib.hid hx
                have HPP := Lib.hid hp0
                have HB := Lib.hid hb
                have d1 := box_at q9 (j := 1) (by omega)
                have r0 := s9.ds.r0
                have y1 := s9.ds.own.fst hxN
                have y2 := s9.ds.own.snd hxN
                have g0 := z0.cell (i := 0) (by omega)
                have g1 := z0.cell (i := 1) (by omega)
                have k0 := z0.frozen 0
                have k1 := z0.frozen 1
                rw [hx] at d1
                clear hx hp0 hb h1 h2
                have hx0 : (0 : Int) ≤ (x : Int) := by omega
                have hx1 : (x : Int) < (N : Int) := by omega
                have hneR : R ≠ Z := fun e => rowIs_ne s9.ds.row z0 (by decide) e
                have hneX : X ≠ Z := by omega
                have hneQ : Q ≠ Z := fun e => rowIs_ne q9 z0 (by decide) e
                have oz : Only wc ((wc.setCell ⟨Z, 0, none⟩ (.int .i64 (f7 x).1)).setCell ⟨Z, 1, none⟩ (.int .i64 (f7 x).2)).drew Z := only_drew (only_set2 _ _ _ _ _ _)
                have d10 := s9.ds.only oz hneR hneX
                have q10 := rowIs_only q9 oz hneQ
                have s10 := s9.onZ z0 hneX hZ0 oz
                have z10 : ((wc.setCell ⟨Z, 0, none⟩ (.int .i64 (f7 x).1)).setCell ⟨Z, 1, none⟩ (.int .i64 (f7 x).2)).drew.rowIs Z 46 2 (fun i => .int .i64 (if i = 0 then p.1 else p.2)) :=
                  ((z0.set 0 (.int .i64 (f7 x).1)).set 1 (.int .i64 (f7 x).2)).congr (fun i hi => by
                    rw [HPP.out]
                    rcases (show i = 0 ∨ i = 1 by omega) with rfl | rfl <;> rfl)
                have d1' := box_at q10 (j := 1) (by omega)
                rw [HX.out] at d1'
                have HS := Lib.hid (And.intro d10.r0 (And.intro d1' (And.intro (d10.own.fst hxN) (d10.own.snd hxN))))
                have HE := Lib.hid (And.intro s10 (And.intro q10 z10))
                clear oz d10 q10 s10 z10 d1'
                go_wp2_with fail
                go_region_held3 (fun w' => w'.cell? ⟨R, 0, none⟩ = some (.slice (some ⟨X, 0, none⟩) N N) ∧ w'.cell? ⟨Q, 1, none⟩ = some (.int .i64 (x : Int)) ∧ w'.cell? ⟨X, x * 2, none⟩ = some (.int .i64 (f7 x).1) ∧ w'.cell? ⟨X, x * 2 + 1, none⟩ = some (.int .i64 (f7 x).2))
                  (first | exact HS.out | go_keep) (fail)
                go_wp2_with fail
                go_meet
                exact HE.out
            case rest =>
              clear s9 q9 z0
              obtain ⟨s9, q9, z9⟩ := hcut
              have g0 := z9.cell (i := 0) (by omega)
              have g1 := z9.cell (i := 1) (by omega)
              rw [if_pos rfl] at g0
              rw [if_neg (by decide)] at g1
              go_wp2_with fail
              go_roundw
              case rel => exact ⟨k + 1, _, _, _, _, _, by omega, rfl, by go_num, s9⟩
              case measure => simp [intOf]; omega
      · have hkl : k = len := by omega
        subst hkl
        go_wp2_with fail
        have heq := eq_fnF
        refine wp_loop_marks (fun T Ds wr => ∃ pv : Int, -1 ≤ pv ∧ pv ≤ 10 ∧ LP w wr stop N D F b c f R X f Ds ∧ ∃ u : Nat → Value, T = #[Value.int IntKind.i64 n, Value.slice a k cap, Value.int IntKind.i64 stop, undef, undef, Value.pointer (some { block := w.heap.size, off := 0 }), Value.pointer (some { block := w.heap.size + 1, off := 0 }), Value.pointer (some { block := D, off := 0 }), Value.pointer (some { block := R, off := 0 }), u9, u10, u11, u12, u13, u14, u15, u16, .int .i64 pv, u 18, u 19, u 20, u 21, u22, u23, u24, u25, u26, u27, u28, u29, u30, u31, Value.bool false, undef, Value.int IntKind.i64 n, Value.pointer (some { block := D0, off := 0 }), Value.int IntKind.i64 n, Value.pointer (some { block := R, off := 0 }), Value.pointer (some { block := D0, off := 0 }), Value.int IntKind.i64 ↑N, Value.pointer (some { block := R, off := 0 }), Value.pointer (some { block := R, off := 0 }), Value.pointer (some { block := R, off := 0 }), Value.slice (some { block := X, off := 0 }) N N, Value.int IntKind.i64 ↑N, Value.bool false, Value.slice a k cap, Value.int IntKind.i64 ↑k, Value.int IntKind.i64 ↑k, Value.bool false, u50, u51, u52, u53, u54, u55, u56, u57, u58, u59, u60, u61, u62, u63, u64, u65, u66, u67, u68, u69, u70, u71, u72, u73, u74, u75, u76, u77, u78, u79, u80, u81, u82, u83, u84, u85, u86, u87, u88, u89, u90, u91, u92, u93, u94, u95, u96, u97, u98, u99, u100, u101, u102, u103, u104, u105, u106, u107, u108, u109, u110, u111, u112, u113, u114, u115, u116, u117, u118, u119, u120, u121, u122, u123, u124, u125, u126, u127, u128, u129, u130, u131, u132, u133, u134, u135, u136, u137, u138, u139, u140, u141, u142, u143, u144, u145, u146, u147, u148, u149, u150, u151, u 152, u 153, u 154, u 155, u 156, u 157, u 158, u 159, u 160, u 161, u 162, u 163, u 164, u 165, undef, undef, u 168, u 169, u 170, u 171, u 172, u 173, u 174, u 175, u 176, u 177, u 178, u 179, u 180, u 181, u 182, u 183, u 184, u 185, u 186, u 187, u 188, u 189, u 190, u 191, u 192, u 193, u 194, u 195, undef])
          (fun T _ => (10 - intOf (T.getD 17 undef)).toNat) (Ds0 := []) ?start3 ?round3
        case start3 => exact ⟨-1, by omega, by omega, s, frame_ofP _ _ rfl⟩
        case round3 =>
          clear s
          rintro T Ds wr ⟨pv, hp1, hp2, s, u, rfl⟩
          by_cases hp9 : pv ≤ 9
          · go_wp2_with fail
            refine (doc_of s.ds pv).mono ?_
            rintro e W11 ⟨a8, c8, g8, rfl, oa8, b11⟩
            have s11 := s.below b11
            have hA0 : w.heap.size ≤ W11.heap.size := s11.st.below.size
            have hgA : a8 ≠ none → g8 < W11.heap.size := fun ha => by
              cases a8 with
              | none => exact absurd rfl ha
              | some ad => exact (oa8.blk ad rfl).2.2
            have bA := below_new W11 (.cells #[.slice a8 (ofL N f pv 1024).length c8] 47)
            have aA := Boxed.new W11 47 (.slice a8 (ofL N f pv 1024).length c8)
            have sA := s11.below bA
            have oaA := oa8.below bA
            have hL1 := ofL_le N f pv 1024
            obtain ⟨L, hL⟩ : ∃ L, ofL N f pv 1024 = L := ⟨_, rfl⟩
            rw [hL] at aA bA sA oaA hL1 ⊢
            obtain ⟨U, hU⟩ : ∃ U, L.length = U := ⟨_, rfl⟩
            rw [hU] at aA bA sA oaA hL1 ⊢
            have HL := Lib.hid hL
            have HU := Lib.hid hU
            have hle8 := oaA.le
            unfold maxLen at hle8
            have z1 := s11.st.tt.srow.lt
            have z2 := s11.st.tt.ltF.2
            have z3 := s11.st.tt.ltb.2
            have SZ := Lib.hid s11
            clear hL hU s s11 b11 oa8
            go_wp2_with fail
            have bK := below_new (W11.alloc (.cells #[.slice a8 U c8] 47)) (.cells #[.int .i64 0] 3)
            have kK := Boxed.new (W11.alloc (.cells #[.slice a8 U c8] 47)) 3 (.int .i64 0)
            have sK := sA.below bK
            have aK := boxed_below aA bK
            have oK := oaA.below bK
            rw [World.size_alloc] at kK
            clear sA aA oaA bA bK
            generalize (W11.alloc (.cells #[.slice a8 U c8] 47)).alloc (.cells #[.int .i64 0] 3) = WK at *
            generalize hKK : W11.heap.size + 1 = K at *
            generalize hAA : W11.heap.size = A at *
            refine (of_any (some ⟨D, 0, none⟩) pv WK).mono ?_
            rintro e WB ⟨rfl, rfl⟩
            go_wp2_with fail
            refine (of_any (some ⟨D, 0, none⟩) pv _).mono ?_
            rintro e WC ⟨rfl, rfl⟩
            have hX := (Boxed.new ((WK.alloc (.cells #[.pointer (some ⟨D, 0, none⟩)] 26)).alloc (.cells #[.int .i64 pv] 3)) 26 (.pointer (some ⟨D, 0, none⟩))).alloc (.cells #[.int .i64 pv] 3)
            have hY := Boxed.new (((WK.alloc (.cells #[.pointer (some ⟨D, 0, none⟩)] 26)).alloc (.cells #[.int .i64 pv] 3)).alloc (.cells #[.pointer (some ⟨D, 0, none⟩)] 26)) 3 (.int .i64 pv)
            simp only [World.size_alloc] at hX hY
            have bD := below_alloc (below_alloc (below_alloc (below_new WK (.cells #[.pointer (some ⟨D, 0, none⟩)] 26)) (.cells #[.int .i64 pv] 3)) (.cells #[.pointer (some ⟨D, 0, none⟩)] 26)) (.cells #[.int .i64 pv] 3)
            have sM := sK.below bD
            have aM := boxed_below aK bD
            have kM := boxed_below kK bD
            have oM := oK.below bD
            have hKlt := kK.lt
            clear sK aK kK oK
            go_wp2_with fail
            generalize (((WK.alloc (.cells #[.pointer (some ⟨D, 0, none⟩)] 26)).alloc (.cells #[.int .i64 pv] 3)).alloc (.cells #[.pointer (some ⟨D, 0, none⟩)] 26)).alloc (.cells #[.int .i64 pv] 3) = WM at *
            have hT := tells_of (pid := pv) (wf64 (by omega) (by omega)) sM.st.tt hX hY
            rw [HL.out] at hT
            have hXW := hX.lt
            have hYW := hY.lt
            have hXK : K < WK.heap.size + 1 + 1 := by omega
            generalize hXe : WK.heap.size + 1 + 1 = Xx at *
            generalize hYe : Xx + 1 = Yy at *
            have hw4 : w.heap.size ≤ WM.heap.size := sM.st.below.size
            have hb4 : b < WM.heap.size := sM.st.tt.ltb.2
            have hD4 : ∀ D ∈ Ds, D < WM.heap.size := fun D hD => sM.mks.lt hD
            have hKd : K ≠ D ∧ K ≠ F ∧ K ≠ b ∧ A ≠ K ∧ (a8 ≠ none → g8 ≠ K) := ⟨by omega, by omega, by omega, by omega, fun h => by have := hgA h; omega⟩
            have HKS := Lib.hid (show W11.heap.size ≤ K by omega)
            have HT := Lib.hid hT
            have HD4 := Lib.hid hD4
            clear hT hX hY bD hD4
            refine wp_range2 (α := Nat × Nat) 166 167 20 21 (gf := 21) (lb := #[.pointer (some ⟨Xx, 0, none⟩), .pointer (some ⟨Yy, 0, none⟩)]) rfl (fun _ _ => by kernel_rfl) HT.out
              (fun k hk => by
                have h1 := sM.st.tt.srow.lt
                rcases hk with rfl | rfl | rfl | rfl <;> omega)
              (fun pre W => PL w W stop N D F b c f R X Ds A K a8 U c8 g8 wr L pre)
              (fun c' s W => (c' = .ret ∧ ¬ (s <+: L)) ∨ (c' = .exit 7 ∧ (s.length : Int) = stop ∧ PL w W stop N D F b c f R X Ds A K a8 U c8 g8 wr L s))
              (fun s W W' h st => h.step st hb4 hw4 HD4.out) (fun c' s W W' h st => h.imp id (fun h => ⟨h.1, h.2.1, h.2.2.step st hb4 hw4 HD4.out⟩)) ⟨sM, aM, oM, kM, List.nil_prefix⟩ ?assign ?body ?done ?stop
            case assign =>
              intro l x W K hK
              gi_wp2
              exact hK
            case body =>
              rintro l pre x W hl s hlen
              obtain ⟨px, kx⟩ := x
              simp only [List.setIfInBounds_toArray, List.set_cons_zero, List.set_cons_succ]
              rw [HU.out] at hlen
              obtain ⟨y, hy⟩ : ∃ y, L[pre.length]? = some y := ⟨_, List.getElem?_eq_getElem (by rw [HU.out]; exact hlen)⟩
              obtain ⟨cy1, cy2⟩ := cellsL_at L _ y hy
              have cy1 := s.oB.cell cy1
              have cy2 := s.oB.cell cy2
              obtain rfl := s.oB.at_ (by omega)
              have ca := s.aB.cell
              have ck := s.kB.cell
              have fk := s.kB.frozen
              have cr := s.lp.rb.cell
              have fr := s.lp.rb.frozen
              have cs := s.lp.sb.cell
              have he := eq49
              have hU1 : pre.length < 1024 := by omega
              have HN : ∀ e, y ≠ e → ¬ (pre ++ [e] <+: L) := fun e he => not_prefix hy he
              have HNE := Lib.hid HN
              obtain ⟨y1, y2⟩ := y
              simp only at cy1 cy2
              generalize hpl : pre.length = pl at *
              have HY := Lib.hid hy
              have HP0 := Lib.hid hpl
              clear hy hpl HN
              have hkeep : ∀ v : Value, Kept (keepT Xx Yy D b) W (W.setCell ⟨K, 0, none⟩ v) := fun v j hj => Below.heap_setCell _ _ _ _ (by rcases hj with rfl | rfl | rfl | rfl <;> simp <;> omega)
              have HKP := Lib.hid hkeep
              clear hkeep
              by_cases hy1 : y1 = px
              · by_cases hy2 : y2 = kx
                · subst hy1
                  subst hy2
                  have on := only_set (only_refl W K) 0 (.int .i64 ((pl : Int) + 1))
                  have hI' : PL w (W.setCell ⟨K, 0, none⟩ (.int .i64 ((pl : Int) + 1))) stop N D F b c f R X Ds A K (some ⟨g8, 0, none⟩) U c8 g8 wr L (pre ++ [(y1, y2)]) := by
                    refine ⟨s.lp.onNew SZ.out HKS.out on (boxed_cells s.kB), boxed_only s.aB on hKd.2.2.2.1, s.oB.only on hKd.2.2.2.2, ?_, prefix_snoc s.hp (by rw [HP0.out]; exact HY.out)⟩
                    have := s.kB.set (.int .i64 ((pl : Int) + 1))
                    rw [List.length_append, HP0.out]
                    simpa using this
                  have HI' := Lib.hid hI'
                  have HL' := Lib.hid (show ((pre ++ [(y1, y2)]).length : Int) = (pl : Int) + 1 by rw [List.length_append, HP0.out]; simp)
                  clear hI' s on
                  by_cases hst : (pl : Int) + 1 = stop
                  · have q : (((pl : Int) + 1) == stop) = true := by rw [hst]; simp
                    have HST := Lib.hid hst
                    clear hst
                    gi_wp2
                    exact ⟨keeps_set _ _ _, .inr ⟨rfl, by rw [HL'.out, HST.out], HI'.out⟩⟩
                  · have q : (((pl : Int) + 1) == stop) = false := beq_eq_false_iff_ne.2 hst
                    clear hst
                    gi_wp2
                    exact ⟨keeps_set _ _ _, HKP.out _, HI'.out⟩
                · have q1 : ((y2 : Int) == (kx : Int)) = false := by rw [beq_eq_false_iff_ne]; omega
                  have q2 : (y2 == kx) = false := by rw [beq_eq_false_iff_ne]; omega
                  have HN := Lib.hid (HNE.out (px, kx) (fun e => hy2 (congrArg Prod.snd e)))
                  subst hy1
                  clear hy2 s
                  gi_wp2
                  exact ⟨keeps_set _ _ _, .inl ⟨rfl, HN.out⟩⟩
              · have q1 : ((y1 : Int) == (px : Int)) = false := by rw [beq_eq_false_iff_ne]; omega
                have q2 : (y1 == px) = false := by rw [beq_eq_false_iff_ne]; omega
                have HN := Lib.hid (HNE.out (px, kx) (fun e => hy1 (congrArg Prod.fst e)))
                clear hy1 s
                gi_wp2
                exact ⟨keeps_set _ _ _, .inl ⟨rfl, HN.out⟩⟩
            case stop =>
              rintro M c' pre W hM hpre hx hk
              rcases hx with ⟨rfl, hn⟩ | ⟨rfl, hst, s⟩
              · exact absurd hpre hn
              · have ca := s.aB.cell
                have ck := s.kB.cell
                have cs := s.lp.sb.cell
                have s2 := s.lp.mark sM.mks hw4 hM hk
                have q : ((pre.length : Int) != stop) = false := by rw [hst]; simp
                clear s hst
                by_cases hpU : pre.length = U
                · have q2 : ((pre.length : Int) != (U : Int)) = false := by rw [hpU]; simp
                  have q3 : (pre.length != U) = false := by rw [hpU]; simp
                  clear hpU
                  go_wp2_with fail
                  exact ⟨M :: Ds, rfl, ⟨pv + 1, by omega, by omega, s2, frame_ofP _ _ rfl⟩, by simp [intOf]; omega⟩
                · have q2 : ((pre.length : Int) != (U : Int)) = true := by rw [bne_iff_ne]; omega
                  have q3 : (pre.length != U) = true := by rw [bne_iff_ne]; exact hpU
                  clear hpU
                  go_wp2_with fail
                  exact ⟨M :: Ds, rfl, ⟨pv + 1, by omega, by omega, s2, frame_ofP _ _ rfl⟩, by simp [intOf]; omega⟩
            case done =>
              rintro M W hM s hk
              have kB := s.kB
              rw [HU.out] at kB
              have ca := s.aB.cell
              have ck := kB.cell
              have cs := s.lp.sb.cell
              have s2 := s.lp.mark sM.mks hw4 hM hk
              clear s
              go_wp2_with fail
              exact ⟨M :: Ds, rfl, ⟨pv + 1, by omega, by omega, s2, frame_ofP _ _ rfl⟩, by simp [intOf]; omega⟩
          · obtain rfl : pv = 10 := by omega
            go_wp2_with fail
            refine (known_any wr).mono ?_
            rintro e WF ⟨rfl, bF⟩
            have sF := s.below bF
            have hc := sF.rb.cell
            have hf := sF.rb.frozen
            go_wp2_with fail
            refine leaves_marks (B := w.heap.size) Ds _ ?_ (sF.mks.set _ _) ?_
            · have := sF.st.below.size; simpa [World.setCell] using this
            · intro w' sh
              have hc' := shut_cell sh (sF.rb.set (.bool true)).cell
              exact ⟨_, by simp [results, Try.results6, go_sem, hc'], rfl, (sF.st.below.setCell (p := ⟨w.heap.size + 1, 0, none⟩) (by simp) _).trans sh.below⟩
end Go.Proofs.Ytlnddehknpfliaa
