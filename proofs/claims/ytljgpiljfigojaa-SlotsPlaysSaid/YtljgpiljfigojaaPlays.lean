/-
  The walk of the law SlotsPlays.
-/
import Derived.Test.YtljgpiljfigojaaDoc
import Derived.Test.YtljgpiljfigojaaNone
import Derived.Test.YtljgpiljfigojaaRF3
import Derived.Deep.RegionHeld3
import Derived.Deep.DeepCutAuto
import Derived.Deep.CutBlock
namespace Go.Proofs.Ytljgpiljfigojaa
open Go.RowKit
attribute [local go_sem] Oper.semAt_some

theorem frame_of (T : Array Value) (L : (Nat → Value) → Array Value) (h : T = L (fun i => T.getD i undef)) : ∃ u, T = L u := ⟨_, h⟩
theorem boxed_row {W : World} {b t : Nat} {v : Value} (h : Boxed W b t v) : W.rowIs b t 1 (fun _ => v) := by
  refine ⟨#[v], h, rfl, fun i hi => ?_⟩
  obtain rfl : i = 0 := by omega
  rfl
theorem SS.base {W : World} {b0 b1 S B n c : Nat} {f : Sl} (s : SS W b1 S B n c f) (h : b0 ≤ b1) : SS W b0 S B n c f := by
  refine ⟨s.srow, ⟨⟨s.own.own.1, ?_⟩, s.own.at_, fun b hb => ?_⟩, s.le, s.ok⟩
  · rcases s.own.own.2 with h1 | ⟨g, cap, cur, h1, h2, r⟩
    · exact .inl h1
    · exact .inr ⟨g, cap, cur, h1, by omega, r⟩
  · obtain ⟨h1, h2, h3⟩ := s.own.blk b hb
    exact ⟨h1, by omega, h3⟩
/-- The slots at S, B; the document's at R, X; the law's own boxes; the marks of loops that are over. -/
structure LP (w W : World) (stop : Int) (N S B c : Nat) (f : Sl) (R X : Nat) (f2 : Sl) (Ds : List Nat) : Prop where
  st : St w W S B N c f
  ds : DS W w.heap.size R X N f2
  ownR : w.heap.size ≤ R
  sb : Boxed W w.heap.size 3 (.int .i64 stop)
  rb : Boxed W (w.heap.size + 1) 4 (.bool false)
  mks : Marks w.heap.size W Ds
section
variable {w W W' : World} {stop : Int} {N S B c R X : Nat} {f f2 : Sl} {Ds : List Nat}
theorem LP.below (s : LP w W stop N S B c f R X f2 Ds) (k : Below W.heap.size W W') : LP w W' stop N S B c f R X f2 Ds :=
  ⟨s.st.belowW k, s.ds.below k, s.ownR, boxed_below s.sb k, boxed_below s.rb k, s.mks.below k⟩
theorem LP.step (s : LP w W stop N S B c f R X f2 Ds) {Z : Nat} (k : Step Z W W') (hZ : W.heap.size ≤ Z ∨ w.heap.size ≤ Z) (hm : Marks w.heap.size W' Ds) : LP w W' stop N S B c f R X f2 Ds :=
  ⟨⟨⟨rowIs_step s.st.ss.srow k, s.st.ss.own.step k, s.st.ss.le, s.st.ss.ok⟩, s.st.below.trans (k.below (by have := s.st.below.size; omega) s.st.below.size), s.st.own⟩,
    ⟨rowIs_step s.ds.row k, s.ds.own.step k, s.ds.le, s.ds.ok⟩, s.ownR, boxed_step s.sb k, boxed_step s.rb k, hm⟩
theorem LP.nes (s : LP w W stop N S B c f R X f2 Ds) : S ≠ X ∧ R ≠ B ∧ X ≠ B ∧ S ≠ w.heap.size ∧ S ≠ w.heap.size + 1 ∧ B ≠ w.heap.size ∧ B ≠ w.heap.size + 1 ∧ R ≠ w.heap.size ∧ R ≠ w.heap.size + 1 ∧ X ≠ w.heap.size ∧ X ≠ w.heap.size + 1 := by
  have hb1 := boxed_row s.sb
  have hb2 := boxed_row s.rb
  exact ⟨fun e => s.ds.own.ne s.st.ss.srow (by decide) (by simp) e.symm, fun e => s.st.ss.own.ne s.ds.row (by decide) (by simp) e.symm, s.ds.own.ne_own s.st.ss.own (by decide) (by simp) (by simp),
    rowIs_ne s.st.ss.srow hb1 (by decide), rowIs_ne s.st.ss.srow hb2 (by decide), s.st.ss.own.ne hb1 (by decide) (by simp), s.st.ss.own.ne hb2 (by decide) (by simp),
    rowIs_ne s.ds.row hb1 (by decide), rowIs_ne s.ds.row hb2 (by decide), s.ds.own.ne hb1 (by decide) (by simp), s.ds.own.ne hb2 (by decide) (by simp)⟩
/-- The slots' owners have turned. -/
theorem LP.onB (s : LP w W stop N S B c f R X f2 Ds) {f' : Sl} (t : St w W' S B N c f') (k : Only W W' B) : LP w W' stop N S B c f' R X f2 Ds :=
  have h := s.nes
  ⟨t, s.ds.only k h.2.1 h.2.2.1, s.ownR, boxed_only s.sb k (fun e => h.2.2.2.2.2.1 e.symm), boxed_only s.rb k (fun e => h.2.2.2.2.2.2.1 e.symm), s.mks.only k (fun o ho => by
    obtain ⟨h1, h2 | ⟨g, cap, cur, h2, _, hg, _⟩⟩ := s.st.ss.own.own
    · cases h2.1
    · cases h2; rw [hg] at ho; cases ho; rfl)⟩
/-- The document's pages have turned. -/
theorem LP.onX (s : LP w W stop N S B c f R X f2 Ds) {f' : Sl} (t : DS W' w.heap.size R X N f') (k : Only W W' X) : LP w W' stop N S B c f R X f' Ds :=
  have h := s.nes
  ⟨⟨s.st.ss.only k h.1 h.2.2.1.symm, below_only s.st.below k s.ds.ltX.1, s.st.own⟩, t, s.ownR, boxed_only s.sb k (fun e => h.2.2.2.2.2.2.2.2.2.1 e.symm), boxed_only s.rb k (fun e => h.2.2.2.2.2.2.2.2.2.2 e.symm), s.mks.only k (fun o ho => by
    obtain ⟨h1, h2 | ⟨g, cap, cur, h2, _, hg, _⟩⟩ := s.ds.own.own
    · cases h2.1
    · cases h2; rw [hg] at ho; cases ho; rfl)⟩
/-- Other slots go on. -/
theorem LP.swap (s : LP w W stop N S B c f R X f2 Ds) {S' B' c' : Nat} {f' : Sl} (t : St w W S' B' N c' f') : LP w W stop N S' B' c' f' R X f2 Ds := ⟨t, s.ds, s.ownR, s.sb, s.rb, s.mks⟩
/-- A box of the law's own, made in this round, has turned. -/
theorem LP.onNew (s : LP w W stop N S B c f R X f2 Ds) {W0 : World} (s0 : LP w W0 stop N S B c f R X f2 Ds) {d : Nat} (hd : W0.heap.size ≤ d) (k : Only W W' d) (hc : ∀ o : Obj, W.heap[d]? = some o → o.isCells = true) : LP w W' stop N S B c f R X f2 Ds := by
  have h1 := s0.st.ss.srow.lt
  have h2 := s0.st.ss.ltB.2
  have h3 := s0.ds.row.lt
  have h4 := s0.ds.ltX.2
  have h5 := s0.rb.lt
  have h6 := s0.st.below.size
  exact ⟨⟨s.st.ss.only k (by omega) (by omega), below_only s.st.below k (by omega), s.st.own⟩, s.ds.only k (by omega) (by omega), s.ownR, boxed_only s.sb k (by omega), boxed_only s.rb k (by omega), s.mks.only k hc⟩
/-- A box of the law's own of the pages' type has turned. -/
theorem LP.onZ (s : LP w W stop N S B c f R X f2 Ds) {Z : Nat} {fz : Nat → Value} {m : Nat} (z : W.rowIs Z 45 m fz) (hX : X ≠ Z) (hZ : w.heap.size ≤ Z) (k : Only W W' Z) : LP w W' stop N S B c f R X f2 Ds :=
  ⟨⟨s.st.ss.only k (rowIs_ne s.st.ss.srow z (by decide)) (s.st.ss.own.ne z (by decide) (by simp)), below_only s.st.below k hZ, s.st.own⟩, s.ds.only k (rowIs_ne s.ds.row z (by decide)) hX, s.ownR,
    boxed_only s.sb k (boxed_ne s.sb z (by decide)), boxed_only s.rb k (boxed_ne s.rb z (by decide)), s.mks.only k (rowIs_cells z)⟩
theorem LP.mark (s : LP w W stop N S B c f R X f2 Ds) {W0 : World} (m0 : Marks w.heap.size W0 Ds) (h0 : w.heap.size ≤ W0.heap.size) {D : Nat} (hD : W0.heap.size ≤ D) (hk : W.heap[D]? = some (.deferred (some []))) : LP w W stop N S B c f R X f2 (D :: Ds) :=
  ⟨s.st, s.ds, s.ownR, s.sb, s.rb, s.mks.push' m0 h0 hD hk⟩
theorem LP.stepD (s : LP w W stop N S B c f R X f2 Ds) {Z : Nat} (k : Step Z W W') (hZ : w.heap.size ≤ Z) (hD : ∀ D ∈ Ds, D < Z) : LP w W' stop N S B c f R X f2 Ds :=
  s.step k (.inr hZ) ⟨fun D h => ⟨(s.mks.lay D h).1, ((k.below (B' := D + 1) (hD D h) (s.mks.lt h)).block D (Nat.lt_succ_self D)).trans (s.mks.lay D h).2⟩, s.mks.nd⟩
end

theorem usedV_at {n k x : Nat} {f : Sl} (h : (usedL n f)[k]? = some x) : (usedV n f)[k]? = some (.int .i64 (x : Int)) := by unfold usedV; rw [List.getElem?_map, h]; rfl
theorem prefix_snoc {l p : List Nat} {x : Nat} (h : p <+: l) (hx : l[p.length]? = some x) : p ++ [x] <+: l := by
  obtain ⟨t, rfl⟩ := h
  rw [List.getElem?_append_right (Nat.le_refl _), Nat.sub_self] at hx
  cases t with
  | nil => cases hx
  | cons y t => simp at hx; subst hx; exact ⟨t, by simp⟩
theorem not_prefix {l p : List Nat} {x y : Nat} (hy : l[p.length]? = some y) (hne : y ≠ x) : ¬ (p ++ [x] <+: l) := by
  rintro ⟨t, rfl⟩
  rw [List.append_assoc, List.getElem?_append_right (Nat.le_refl _), Nat.sub_self] at hy
  simp at hy
  exact hne hy.symm
set_option maxRecDepth 100000 in
set_option maxHeartbeats 8000000 in
theorem plays_any (n stop : Int) (a : Option Addr) (len cap bo off : Nat) (V : Nat → Nat → Int) (w : World) (o : OpsI w a len bo off 4 V) (hlen : len ≤ 9223372036854775807) :
    Calls Try.prog 6 #[.int .i64 n, .slice a len cap, .int .i64 stop] w fun e w' => e = .returned (.bool true) ∧ Below w.heap.size w w' := by
  refine calls_of_wp_marks Try.func6 rfl ?_
  simp only [Try.ntmps6, List.size_toArray, List.length_cons, List.length_nil, Nat.reduceAdd, Nat.reduceSub, Array.replicate_succ, Array.replicate_zero, List.push_toArray, List.append_toArray, List.nil_append, List.cons_append]
  have sb0 : Boxed ((w.alloc (.cells #[.int .i64 stop] 3)).alloc (.cells #[.bool false] 4)) w.heap.size 3 (.int .i64 stop) := (Boxed.new w 3 _).alloc _
  have rb0 := Boxed.new (w.alloc (.cells #[.int .i64 stop] 3)) 4 (.bool false)
  rw [World.size_alloc] at rb0
  have bl0 : Below w.heap.size w ((w.alloc (.cells #[.int .i64 stop] 3)).alloc (.cells #[.bool false] 4)) := below_alloc (below_new _ _) _
  by_cases h200 : 200 < len
  · go_wp2_with fail
    generalize (w.alloc (.cells #[.int .i64 stop] 3)).alloc (.cells #[.bool false] 4) = W0 at *
    refine (known_any W0).mono ?_
    rintro e WF ⟨rfl, bF⟩
    have rF := boxed_below rb0 bF
    have hc := rF.cell
    have hf := rF.frozen
    have bl1 := below_then bl0 bF
    go_wp2_with fail
    refine leaves_marks (B := w.heap.size) [] _ ?_ ((marks_nil _ _).set _ _) ?_
    · have := bl1.size; simpa [World.setCell] using this
    · intro w' sh
      have hc' := shut_cell sh (rF.set (.bool true)).cell
      exact ⟨_, by simp [results, Try.results6, go_sem, hc'], rfl, (bl1.setCell (p := ⟨w.heap.size + 1, 0, none⟩) (by simp) _).trans sh.below⟩
  have d1 : decide ((200 : Int) < (len : Int)) = false := by simp; omega
  have d3 : decide (200 < len) = false := by simp; omega
  go_wp2_with fail
  generalize (w.alloc (.cells #[.int .i64 stop] 3)).alloc (.cells #[.bool false] 4) = W0 at *
  refine (new_any n W0).mono ?_
  rintro e W1 ⟨rfl, rfl⟩
  have hN := clampN_le n
  have hz0 := bl0.size
  have b1 := below_newW W0 (clampN n)
  have s1 : St w (newW W0 (clampN n)) (W0.heap.size + 1) W0.heap.size (clampN n) (clampN n) empty := ⟨ss_new W0 bl0.size _ hN, below_then bl0 b1, by omega⟩
  have sb1 := boxed_below sb0 b1
  have rb1 := boxed_below rb0 b1
  generalize newW W0 (clampN n) = W1 at *
  go_wp2_with fail
  refine (doc_new n W1).mono ?_
  rintro e W2 ⟨rfl, rfl⟩
  have b2 := below_newD W1 (clampN n)
  have d2 := ds_new (w0 := w) W1 s1.below.size (clampN n) hN
  have hz1 := s1.below.size
  have s2 : LP w (newD W1 (clampN n)) stop (clampN n) (W0.heap.size + 1) W0.heap.size (clampN n) empty (W1.heap.size + 1) W1.heap.size empty [] :=
    ⟨s1.belowW b2, d2, by omega, boxed_below sb1 b2, boxed_below rb1 b2, marks_nil _ _⟩
  generalize newD W1 (clampN n) = W2 at *
  generalize W1.heap.size + 1 = R at *
  generalize W1.heap.size = X at *
  generalize W0.heap.size + 1 = S0 at *
  generalize W0.heap.size = B0 at *
  generalize clampN n = N at *
  clear d2 b2 b1 s1 bl0 sb0 rb0 sb1 rb1
  have r0 := s2.ds.r0
  have hN2 : (N : Int) ≤ 1024 := by omega
  go_wp2_with fail
  go_quiet ((go_at_call 13; refine Calls.quiet_of_same ((len_any (s2.below (below_drewN (Below.refl _ _) _)).st.ss).mono fun _ _ ⟨he, hw⟩ => ⟨he, hw.symm⟩)))
  have s3 := s2.below (below_drewN (Below.refl _ _) nq)
  generalize W2.drewN nq = W3 at *
  clear s2 r0 d1 d3
  go_wp2_with fail
  refine wp_loop_marks (fun T Ds wr => ∃ (k : Nat) (i : Int) (S B c : Nat) (f : Sl), k ≤ len ∧ i = (k : Int) ∧ LP w wr stop N S B c f R X f Ds ∧ ∃ u : Nat → Value, T = #[Value.int IntKind.i64 n, Value.slice a len cap, Value.int IntKind.i64 stop, undef, undef, Value.pointer (some { block := w.heap.size, off := 0 }), Value.pointer (some { block := w.heap.size + 1, off := 0 }), .pointer (some ⟨S, 0, none⟩), Value.pointer (some { block := R, off := 0 }), u 9, u 10, u 11, u 12, u 13, u 14, u 15, u 16, u 17, u 18, u 19, u 20, u 21, u 22, u 23, Value.slice a len cap, Value.int IntKind.i64 ↑len, Value.bool false, undef, Value.int IntKind.i64 n, Value.pointer (some { block := S0, off := 0 }), Value.int IntKind.i64 n, Value.pointer (some { block := R, off := 0 }), Value.pointer (some { block := S0, off := 0 }), Value.int IntKind.i64 ↑N, Value.pointer (some { block := R, off := 0 }), Value.pointer (some { block := R, off := 0 }), Value.pointer (some { block := R, off := 0 }), Value.slice (some { block := X, off := 0 }) N N, Value.int IntKind.i64 ↑N, Value.bool false, Value.slice a len cap, Value.int IntKind.i64 ↑len, .int .i64 i, u 43, u 44, u 45, u 46, u 47, u 48, u 49, u 50, u 51, u 52, u 53, u 54, u 55, u 56, u 57, u 58, u 59, u 60, u 61, u 62, u 63, u 64, u 65, u 66, u 67, u 68, u 69, u 70, u 71, u 72, u 73, u 74, u 75, u 76, u 77, u 78, u 79, u 80, u 81, u 82, u 83, u 84, u 85, u 86, u 87, u 88, u 89, u 90, u 91, u 92, u 93, u 94, u 95, u 96, u 97, u 98, u 99, u 100, u 101, u 102, u 103, u 104, u 105, u 106, u 107, u 108, u 109, u 110, u 111, u 112, u 113, u 114, u 115, u 116, u 117, u 118, u 119, u 120, u 121, u 122, u 123, u 124, u 125, u 126, u 127, u 128, u 129, u 130, u 131, u 132, u 133, u 134, u 135, u 136, u 137, u 138, u 139, u 140, u 141, u 142, u 143, u 144, u 145, u 146, u 147, u 148, u 149, u 150, u 151, u 152, u 153, u 154, u 155, u 156, u 157, u 158, u 159, u 160, u 161, u 162, u 163, u 164, u 165, u 166, u 167, u 168, u 169, u 170, u 171, u 172, u 173, u 174, u 175, u 176, u 177, u 178, u 179, u 180, u 181, u 182, u 183, u 184, u 185, u 186, u 187, u 188, u 189, u 190, u 191, u 192, u 193, u 194, u 195, undef])
    (fun T _ => len - (intOf (T.getD 42 undef)).toNat) (Ds0 := []) ?start ?round
  case start => exact ⟨0, 0, S0, B0, N, empty, Nat.zero_le _, rfl, s3, frame_of _ _ rfl⟩
  case round =>
    clear s3
    rintro T Ds wr ⟨k, i, S, B, c, f, hk, rfl, s, u, rfl⟩
    by_cases hlt : k < len
    · have o' := o.below s.st.below
      have ck := o'.c0 hlt (by omega)
      have c1 := o'.cell k hlt 1 (by omega)
      have c2 := o'.cell k hlt 2 (by omega)
      have c3 := o'.cell k hlt 3 (by omega)
      obtain rfl := o.at_ (by omega)
      have bn := below_new wr (.cells #[.int .i64 (V k 0), .int .i64 (V k 1), .int .i64 (V k 2), .int .i64 (V k 3)] 34)
      have sn := s.below bn
      have qn := box_new wr (V k)
      have hQ0 : w.heap.size ≤ wr.heap.size := s.st.below.size
      clear bn o'
      have d0 := box_at qn (j := 0) (by omega)
      go_upto_block 2 with fail
      generalize wr.heap.size = Q at *
      generalize wr.alloc (.cells #[.int .i64 (V k 0), .int .i64 (V k 1), .int .i64 (V k 2), .int .i64 (V k 3)] 34) = W4 at *
      have e2 := box_at qn (j := 2) (by omega)
      have e3 := box_at qn (j := 3) (by omega)
      clear d0
      go_cut [7] from 51 to 106 (fun s7 wx => ∃ (S7 B7 c7 : Nat) (f7 : Sl), s7 = .pointer (some ⟨S7, 0, none⟩) ∧ LP w wx stop N S7 B7 c7 f7 R X f7 Ds ∧ wx.rowIs Q 34 4 (boxV (V k)))
      case first =>
        rcases Decidable.em (V k 0 = 0) with hk0 | hk0
        case' inl =>
          have q0 : (V k 0 == 0) = true := by rw [hk0]; rfl
          have q1 : (V k 0 == 1) = false := by rw [hk0]; rfl
          have q2 : (V k 0 == 2) = false := by rw [hk0]; rfl
          clear hk0
          obtain ⟨x, y, f7, hx⟩ : ∃ x y f7, takeF N f (V k 2) (V k 3) = (x, y, f7) := ⟨_, _, _, rfl⟩
          have HX := Lib.hid hx
          clear hx
          go_wp2_with fail
          refine (take_o sn.st (V k 2) (V k 3) HX.out).mono ?_
          rintro e W5 ⟨rfl, t5, o5⟩
          have s5 := sn.onB t5 o5
          have q5 := rowIs_only qn o5 (fun e => OwnAt.ne sn.st.ss.own qn (by decide) (by simp) e.symm)
          have d2 := box_at q5 (j := 2) (by omega)
          have d3 := box_at q5 (j := 3) (by omega)
          go_wp2_with fail
          have hd := doc_take s5.ds (V k 2) (V k 3)
          rw [HX.out] at hd
          refine hd.mono ?_
          rintro e W7 ⟨rfl, t7, o7⟩
          have s7 := s5.onX t7 o7
          have q7 := rowIs_only q5 o7 (fun e => OwnAt.ne s5.ds.own q5 (by decide) (by simp) e.symm)
          clear d2 d3 hd t5 t7 o5 o7 q5 s5 sn qn
          go_wp2_with fail
        case' inr =>
          have q0 : (V k 0 == 0) = false := beq_eq_false_iff_ne.2 hk0
          clear hk0
          rcases Decidable.em (V k 0 = 1) with hk1 | hk1
          case' inl =>
            have q1 : (V k 0 == 1) = true := by rw [hk1]; rfl
            have q2 : (V k 0 == 2) = false := by rw [hk1]; rfl
            clear hk1
            obtain ⟨y, f7, hx⟩ : ∃ y f7, freeF N f (V k 1) = (y, f7) := ⟨_, _, rfl⟩
            have HX := Lib.hid hx
            clear hx
            go_wp2_with fail
            have sd := sn.below (Below.refl W4.heap.size W4).drew
            have qd := rowIs_below qn (Below.refl W4.heap.size W4).drew
            have d1 := box_at qn (j := 1) (by omega)
            go_region_held3 (fun w' => w'.cell? ⟨Q, 1, none⟩ = some (.int .i64 (V k 1)))
              (first | exact box_at q7 (j := 1) (by omega) | exact box_at q5 (j := 1) (by omega) | go_keep)
              (first
                | (go_at_call 12; refine (free_o sd.st (V k 1) HX.out).mono ?_; rintro e W5 ⟨rfl, t5, o5⟩; have s5 := sd.onB t5 o5; have q5 := rowIs_only qd o5 (fun e => OwnAt.ne sd.st.ss.own qd (by decide) (by simp) e.symm))
                | (go_at_call 17; have hd := doc_free s5.ds (V k 1); rw [HX.out] at hd; refine hd.mono ?_; rintro e W7 ⟨rfl, t7, o7⟩; have s7 := s5.onX t7 o7; have q7 := rowIs_only q5 o7 (fun e => OwnAt.ne s5.ds.own q5 (by decide) (by simp) e.symm)))
            clear d1 hd t5 t7 o5 o7 q5 s5 sn qn sd qd
            go_wp2_with fail
          case' inr =>
            have q1 : (V k 0 == 1) = false := beq_eq_false_iff_ne.2 hk1
            clear hk1
            rcases Decidable.em (V k 0 = 2) with hk2 | hk2
            case' inl =>
              have q2 : (V k 0 == 2) = true := by rw [hk2]; rfl
              clear hk2
              go_wp2_with fail
              refine (copy_any sn.st.ss).mono ?_
              rintro e W5 ⟨S7, B7, c7, rfl, hS7, ss7, b5⟩
              have s5 := sn.below b5
              have q5 := rowIs_below qn b5
              have hB7 := ss7.ltB.1
              have hBl := sn.st.ss.ltB.2
              have hSl := sn.st.ss.srow.lt
              have hw4 := sn.st.below.size
              have ss8 := ss7.base hw4
              have r0 := s5.ds.r0
              have hS8 : w.heap.size ≤ S7 := by omega
              clear sn qn ss7
              go_wp2_with fail
              go_loopw [99] (fun i wr => ∃ (j : Nat) (fx : Sl), j ≤ N ∧ i = .int .i64 j ∧ LP w wr stop N S B c fx R X f Ds ∧ SS wr w.heap.size S7 B7 N c7 f ∧ wr.rowIs Q 34 4 (boxV (V k))) (fun i _ => N - (intOf i).toNat)
              case atStart => exact ⟨0, f, Nat.zero_le _, rfl, s5, ss8, q5⟩
              case' round =>
                clear s5 q5 r0 ss8
                obtain ⟨j, fx, hj, rfl, s5, ss8, q5⟩ := hrel
                rcases Decidable.em (j < N) with hjn | hjn
                case inl =>
                  go_wp2_with fail
                  refine (free_o s5.st (j : Int) rfl).mono ?_
                  rintro e W6 ⟨rfl, t6, o6⟩
                  have s6 := s5.onB t6 o6
                  have ss9 := ss8.only o6 (by omega) (by omega)
                  have q6 := rowIs_only q5 o6 (fun e => OwnAt.ne s5.st.ss.own q5 (by decide) (by simp) e.symm)
                  go_wp2_with fail
                  go_roundw
                  case rel => exact ⟨j + 1, _, by omega, by go_num, s6, ss9, q6⟩
                  case measure => simp [intOf]; omega
                case' inr =>
                  have s7 := s5.swap ⟨ss8, s5.st.below, hS8⟩
                  have q7 := q5
                  clear s5 ss8 q5
                  obtain ⟨f7, rfl⟩ : ∃ f7 : Sl, f7 = f := ⟨_, rfl⟩
                  go_wp2_with fail
            case' inr =>
              have q2 : (V k 0 == 2) = false := beq_eq_false_iff_ne.2 hk2
              clear hk2
              go_wp2_with fail
              have s7 := sn
              have q7 := qn
              clear sn qn
              obtain ⟨f7, rfl⟩ : ∃ f7 : Sl, f7 = f := ⟨_, rfl⟩
        all_goals
          go_meet
          exact ⟨_, _, _, _, rfl, s7, q7⟩
      case rest =>
        clear sn qn e2 e3
        obtain ⟨S7, B7, c7, f7, rfl, s7, q7⟩ := hcut
        have d1 := box_at q7 (j := 1) (by omega)
        go_wp2_with fail
        clear d1
        obtain ⟨p, hp⟩ : ∃ p, ownerF N f7 (V k 1) = p := ⟨_, rfl⟩
        have HP := Lib.hid hp
        clear hp
        refine (owner_o s7.st (V k 1) HP.out).mono ?_
        rintro e W8 ⟨rfl, b8⟩
        have s8 := s7.below b8
        have q8 := rowIs_below q7 b8
        clear s7 q7 b8
        go_upto_region 30 with fail
        have z0 := World.rowIs_alloc W8 #[.int .i64 0, .int .i64 0] 45 (fun _ => .int .i64 0) (fun i hi => by
          rcases (show i = 0 ∨ i = 1 by simp at hi; omega) with rfl | rfl <;> rfl)
        have s9 := s8.below (below_new W8 (.cells #[.int .i64 0, .int .i64 0] 45))
        have q9 := rowIs_below q8 (below_new W8 (.cells #[.int .i64 0, .int .i64 0] 45))
        have hZ0 : w.heap.size ≤ W8.heap.size := s8.st.below.size
        have hZX : X < W8.heap.size := s8.ds.ltX.2
        clear s8 q8
        generalize W8.heap.size = Z at *
        generalize W8.alloc (.cells #[.int .i64 0, .int .i64 0] 45) = W9 at *
        go_cut [128] from 116 to 127 (fun c wx => c = .bool (!badI N (V k 1)) ∧ LP w wx stop N S7 B7 c7 f7 R X f7 Ds ∧ wx.rowIs Q 34 4 (boxV (V k)) ∧ wx.rowIs Z 45 2 (fun _ => .int .i64 0))
        case first =>
          have d1 := box_at q9 (j := 1) (by omega)
          have r0 := s9.ds.r0
          cases hb : badI N (V k 1) with
          | true =>
            rcases badI_true hb with h | ⟨h1, h2⟩
            · have x1 : decide (0 ≤ V k 1) = false := by simp; omega
              have HB := Lib.hid hb
              clear hb
              go_quiet (fail)
              go_wp2_with fail
              go_meet
              exact ⟨by rw [HB.out]; rfl, s9.below (below_drewN (Below.refl _ _) _), rowIs_drewN q9 _, rowIs_drewN z0 _⟩
            · have x1 : decide (0 ≤ V k 1) = true := by simp; omega
              have x2 : decide (V k 1 < (N : Int)) = false := by simp; omega
              have HB := Lib.hid hb
              clear hb
              go_quiet (fail)
              go_wp2_with fail
              go_meet
              exact ⟨by rw [HB.out]; rfl, s9.below (below_drewN (Below.refl _ _) _), rowIs_drewN q9 _, rowIs_drewN z0 _⟩
          | false =>
            obtain ⟨h1, h2⟩ := badI_false hb
            have x1 : decide (0 ≤ V k 1) = true := by simp; omega
            have x2 : decide (V k 1 < (N : Int)) = true := by simp; omega
            have HB := Lib.hid hb
            clear hb
            go_quiet (fail)
            go_wp2_with fail
            go_meet
            exact ⟨by rw [HB.out]; rfl, s9.below (below_drewN (Below.refl _ _) _), rowIs_drewN q9 _, rowIs_drewN z0 _⟩
        case rest =>
          clear s9 q9 z0
          obtain ⟨rfl, s9, q9, z0⟩ := hcut
          go_upto_if 128 with fail
          go_cut [] from 128 to 136 (fun wx => LP w wx stop N S7 B7 c7 f7 R X f7 Ds ∧ wx.rowIs Q 34 4 (boxV (V k)) ∧ wx.rowIs Z 45 2 (fun i => .int .i64 (if i = 0 then p.1 else p.2)))
          case first =>
            cases hb : badI N (V k 1) with
            | true =>
              have hp0 : p = (0, 0) := by rw [← HP.out]; unfold ownerF; rw [hb]; rfl
              have HZ := Lib.hid (z0.congr (g := fun i => .int .i64 (if i = 0 then p.1 else p.2)) (fun i _ => by rw [hp0]; simp))
              clear hp0
              go_wp2_with fail
              go_meet
              exact ⟨s9, q9, HZ.out⟩
            | false =>
              obtain ⟨h1, h2⟩ := badI_false hb
              obtain ⟨x, hx⟩ := Int.eq_ofNat_of_zero_le h1
              have hxN : x < N := by omega
              have hp0 : p = f7 x := by rw [← HP.out]; unfold ownerF; rw [hb, hx]; simp
              have HX := Lib.hid hx
              have HPP := Lib.hid hp0
              have HB := Lib.hid hb
              have d1 := box_at q9 (j := 1) (by omega)
              have r0 := s9.ds.r0
              have y1 := s9.ds.own.fst hxN
              have y2 := s9.ds.own.snd hxN
              have g0 := z0.cell (i := 0) (by omega)
              have g1 := z0.cell (i := 1) (by omega)
              have k0 := z0.frozen 0
              have k1 := z0.frozen 1
              unfold boxV at d1
              rw [hx] at d1
              clear hx hp0 hb h1 h2
              have hx0 : (0 : Int) ≤ (x : Int) := by omega
              have hx1 : (x : Int) < (N : Int) := by omega
              have hneR : R ≠ Z := fun e => rowIs_ne s9.ds.row z0 (by decide) e
              have hneX : X ≠ Z := by omega
              have hneQ : Q ≠ Z := fun e => rowIs_ne q9 z0 (by decide) e
              have oz : Only wc ((wc.setCell ⟨Z, 0, none⟩ (.int .i64 (f7 x).1)).setCell ⟨Z, 1, none⟩ (.int .i64 (f7 x).2)).drew Z := only_drew (only_set2 _ _ _ _ _ _)
              have d10 := s9.ds.only oz hneR hneX
              have q10 := rowIs_only q9 oz hneQ
              have s10 := s9.onZ z0 hneX hZ0 oz
              have z10 : ((wc.setCell ⟨Z, 0, none⟩ (.int .i64 (f7 x).1)).setCell ⟨Z, 1, none⟩ (.int .i64 (f7 x).2)).drew.rowIs Z 45 2 (fun i => .int .i64 (if i = 0 then p.1 else p.2)) :=
                ((z0.set 0 (.int .i64 (f7 x).1)).set 1 (.int .i64 (f7 x).2)).congr (fun i hi => by
                  rw [HPP.out]
                  rcases (show i = 0 ∨ i = 1 by omega) with rfl | rfl <;> rfl)
              have d1' := box_at q10 (j := 1) (by omega)
              unfold boxV at d1'
              rw [HX.out] at d1'
              have HS := Lib.hid (And.intro d10.r0 (And.intro d1' (And.intro (d10.own.fst hxN) (d10.own.snd hxN))))
              have HE := Lib.hid (And.intro s10 (And.intro q10 z10))
              clear oz d10 q10 s10 z10 d1'
              go_wp2_with fail
              go_region_held3 (fun w' => w'.cell? ⟨R, 0, none⟩ = some (.slice (some ⟨X, 0, none⟩) N N) ∧ w'.cell? ⟨Q, 1, none⟩ = some (.int .i64 (x : Int)) ∧ w'.cell? ⟨X, x * 2, none⟩ = some (.int .i64 (f7 x).1) ∧ w'.cell? ⟨X, x * 2 + 1, none⟩ = some (.int .i64 (f7 x).2))
                (first | exact HS.out | go_keep) (fail)
              go_wp2_with fail
              go_meet
              exact HE.out
          case rest =>
            clear s9 q9 z0
            obtain ⟨s9, q9, z9⟩ := hcut
            go_wp2_with fail
            refine (doc_all s9.ds).mono ?_
            rintro e W11 ⟨a8, c8, g8, rfl, oa8, b11⟩
            have s11 := s9.below b11
            have z11 := rowIs_below z9 b11
            have hA0 : w.heap.size ≤ W11.heap.size := s11.st.below.size
            have hgA : a8 ≠ none → wc.heap.size ≤ g8 ∧ g8 < W11.heap.size := fun ha => by
              cases a8 with
              | none => exact absurd rfl ha
              | some ad => exact (oa8.blk ad rfl).2
            have bA := below_new W11 (.cells #[.slice a8 (usedL N f7).length c8] 46)
            have aA := Boxed.new W11 46 (.slice a8 (usedL N f7).length c8)
            have sA := s11.below bA
            have zA := rowIs_below z11 bA
            have oaA := oa8.below bA
            obtain ⟨U, hU⟩ : ∃ U, (usedL N f7).length = U := ⟨_, rfl⟩
            have hUN : U ≤ N := by rw [← hU]; exact usedL_le N f7
            have hle8 := oa8.le
            have hUV : (usedV N f7).length = U := by rw [usedV_len, hU]
            rw [hU] at aA bA sA zA oaA hle8 ⊢
            unfold maxLen at hle8
            have HU := Lib.hid hU
            clear hU s9 q9 z9 s11 z11 b11 oa8
            go_wp2_with fail
            generalize W11.heap.size = A at *
            generalize W11.alloc (.cells #[.slice a8 U c8] 46) = WA at *
            have sD := sA.below (Below.refl WA.heap.size WA).drew
            have zD := rowIs_below zA (Below.refl WA.heap.size WA).drew
            have aD := boxed_below aA (Below.refl WA.heap.size WA).drew
            have e0 := zA.cell (i := 0) (by omega)
            have e1 := zA.cell (i := 1) (by omega)
            have e2 := aA.cell
            have hp2 : ∀ x : Int, (x != x) = false := fun x => by simp
            have hp3 : ∀ x : Bool, (x != x) = false := fun x => by simp
            simp only [if_true, Nat.one_ne_zero, if_false] at e0 e1
            go_region_held3 (fun w' => w'.cell? ⟨Z, 0, none⟩ = some (.int .i64 p.1) ∧ w'.cell? ⟨Z, 1, none⟩ = some (.int .i64 p.2) ∧ w'.cell? ⟨A, 0, none⟩ = some (.slice a8 U c8))
              (first | exact ⟨zE.cell (i := 0) (by omega), zE.cell (i := 1) (by omega), aE.cell⟩ | go_keep)
              ((go_at_call 11; refine (used_o sD.st HU.out).mono ?_; rintro e W13 ⟨rfl, b13⟩; have sE := sD.below b13; have zE := rowIs_below zD b13; have aE := boxed_below aD b13))
            have oaE := (oaA.below (Below.refl WA.heap.size WA).drew).below b13
            have hKE : W13.heap.size ≤ W13.heap.size := Nat.le_refl _
            have hAK : A < W13.heap.size := aE.lt
            have hgK : a8 ≠ none → g8 < W13.heap.size := fun ha => by
              cases a8 with
              | none => exact absurd rfl ha
              | some ad => exact (oaE.blk ad rfl).2.2
            have bK := below_new W13 (.cells #[.int .i64 0] 3)
            have kK := Boxed.new W13 3 (.int .i64 0)
            have sK := sE.below bK
            have aK := boxed_below aE bK
            have oK := oaE.below bK
            have heq := eq_fn
            clear sA zA oaA bA aA sD zD aD zE e0 e1 e2 hp2 hp3 b13 aE oaE bK
            go_wp2_with fail
            generalize hKK : W13.heap.size = K at *
            have HKK := Lib.hid (Nat.le_of_eq hKK)
            clear hKK hKE
            generalize W13.alloc (.cells #[.int .i64 0] 3) = WK at *
            refine (all_ptr (some ⟨S7, 0, none⟩) WK).mono ?_
            rintro e WL ⟨rfl, rfl⟩
            go_wp2_with fail
            refine (all_ptr (some ⟨S7, 0, none⟩) _).mono ?_
            rintro e WM ⟨rfl, rfl⟩
            have bL := below_alloc (below_new WK (.cells #[.pointer (some ⟨S7, 0, none⟩)] 23)) (.cells #[.pointer (some ⟨S7, 0, none⟩)] 23)
            have hX2 := Boxed.new (WK.alloc (.cells #[.pointer (some ⟨S7, 0, none⟩)] 23)) 23 (.pointer (some ⟨S7, 0, none⟩))
            rw [World.size_alloc] at hX2
            have sM := sK.below bL
            have aM := boxed_below aK bL
            have kM := boxed_below kK bL
            have oM := oK.below bL
            have hKM : K < WK.heap.size := kK.lt
            clear sK aK kK oK
            go_wp2_with fail
            generalize hWM : (WK.alloc (.cells #[.pointer (some ⟨S7, 0, none⟩)] 23)).alloc (.cells #[.pointer (some ⟨S7, 0, none⟩)] 23) = WM at *
            have hXM : WK.heap.size + 1 < WM.heap.size := hX2.lt
            have HWM := Lib.hid hWM
            have hKX : K < WK.heap.size + 1 := by omega
            clear hWM bL
            generalize WK.heap.size + 1 = X2 at *
            have hDs : ∀ D ∈ Ds, D < WM.heap.size := fun D hD => sM.mks.lt hD
            have hwM : w.heap.size ≤ WM.heap.size := sM.st.below.size
            have HI : ∀ (pre : List Nat) (W W' : World), (LP w W stop N S7 B7 c7 f7 R X f7 Ds ∧ Boxed W A 46 (.slice a8 U c8) ∧ OwnAt W wc.heap.size 3 1 a8 U c8 g8 (usedV N f7) ∧ Boxed W K 3 (.int .i64 (pre.length : Int)) ∧ pre <+: usedL N f7) → Step WM.heap.size W W' →
                (LP w W' stop N S7 B7 c7 f7 R X f7 Ds ∧ Boxed W' A 46 (.slice a8 U c8) ∧ OwnAt W' wc.heap.size 3 1 a8 U c8 g8 (usedV N f7) ∧ Boxed W' K 3 (.int .i64 (pre.length : Int)) ∧ pre <+: usedL N f7) :=
              fun pre W W' h st => ⟨h.1.stepD st hwM hDs, boxed_step h.2.1 st, h.2.2.1.step st, boxed_step h.2.2.2.1 st, h.2.2.2.2⟩
            have HII := Lib.hid HI
            have HDs := Lib.hid hDs
            clear HI hDs
            refine wp_range1 (α := Nat) 168 23 (gf := 24) (lb := #[.pointer (some ⟨X2, 0, none⟩)]) rfl (fun _ _ => by kernel_rfl) (tells_all sM.st.ss hX2)
              (fun k hk => by
                have h1 := sM.st.ss.srow.lt
                have h2 := sM.st.ss.ltB.2
                rcases hk with rfl | rfl | rfl <;> omega)
              (fun pre W => LP w W stop N S7 B7 c7 f7 R X f7 Ds ∧ Boxed W A 46 (.slice a8 U c8) ∧ OwnAt W wc.heap.size 3 1 a8 U c8 g8 (usedV N f7) ∧ Boxed W K 3 (.int .i64 (pre.length : Int)) ∧ pre <+: usedL N f7)
              (fun c s W => (c = .ret ∧ ¬ (s <+: usedL N f7)) ∨ (c = .exit 5 ∧ (s.length : Int) = stop ∧ (LP w W stop N S7 B7 c7 f7 R X f7 Ds ∧ Boxed W A 46 (.slice a8 U c8) ∧ OwnAt W wc.heap.size 3 1 a8 U c8 g8 (usedV N f7) ∧ Boxed W K 3 (.int .i64 (s.length : Int)) ∧ s <+: usedL N f7)))
              HII.out (fun c s W W' h st => h.imp id (fun h => ⟨h.1, h.2.1, HII.out s W W' h.2.2 st⟩)) ⟨sM, aM, oM, kM, List.nil_prefix⟩ ?assign ?body ?done ?stop
            case assign =>
              intro l x W K hK
              gi_wp2
              exact hK
            case body =>
              rintro l pre x W hl ⟨s, aB, oB, kB, hpre⟩ hlen
              rw [HU.out] at hlen
              obtain ⟨y, hy⟩ : ∃ y, (usedL N f7)[pre.length]? = some y := ⟨_, List.getElem?_eq_getElem (by rw [HU.out]; exact hlen)⟩
              have cy := oB.cell (usedV_at hy)
              obtain rfl := oB.at_ (by omega)
              have ca := aB.cell
              have ck := kB.cell
              have fk := kB.frozen
              have cr := s.rb.cell
              have fr := s.rb.frozen
              have cs := s.sb.cell
              have hU1 : pre.length < 1024 := by omega
              simp only [List.setIfInBounds_toArray, List.set_cons_zero, List.set_cons_succ]
              generalize hpl : pre.length = pl at *
              have HY := Lib.hid hy
              have HP0 := Lib.hid hpl
              have HPR := Lib.hid hpre
              clear hy hpl hpre
              have hSK := sE.st.ss.srow.lt
              have hBK := sE.st.ss.ltB.2
              have hK0 := HKK.out
              have hkeep : ∀ v : Value, Kept (keepS X2 S7 B7) W (W.setCell ⟨K, 0, none⟩ v) := fun v j hj => Below.heap_setCell _ _ _ _ (by rcases hj with rfl | rfl | rfl <;> simp <;> omega)
              have HKP := Lib.hid hkeep
              clear hkeep
              by_cases hyx : y = x
              · subst hyx
                have hI' : LP w (W.setCell ⟨K, 0, none⟩ (.int .i64 ((pl : Int) + 1))) stop N S7 B7 c7 f7 R X f7 Ds ∧ Boxed (W.setCell ⟨K, 0, none⟩ (.int .i64 ((pl : Int) + 1))) A 46 (.slice (some ⟨g8, 0, none⟩) U c8) ∧
                    OwnAt (W.setCell ⟨K, 0, none⟩ (.int .i64 ((pl : Int) + 1))) wc.heap.size 3 1 (some ⟨g8, 0, none⟩) U c8 g8 (usedV N f7) ∧ Boxed (W.setCell ⟨K, 0, none⟩ (.int .i64 ((pl : Int) + 1))) K 3 (.int .i64 ((pre ++ [y]).length : Int)) ∧ (pre ++ [y]) <+: usedL N f7 := by
                  have on := only_set (only_refl W K) 0 (.int .i64 ((pl : Int) + 1))
                  refine ⟨s.onNew sE hK0 on (boxed_cells kB), boxed_only aB on (by omega), oB.only on (fun h => by have := hgK h; omega), ?_, prefix_snoc HPR.out (by rw [HP0.out]; exact HY.out)⟩
                  have := kB.set (.int .i64 ((pl : Int) + 1))
                  rw [List.length_append, HP0.out]
                  simpa using this
                have HI' := Lib.hid hI'
                have HL' := Lib.hid (show ((pre ++ [y]).length : Int) = (pl : Int) + 1 by rw [List.length_append, HP0.out]; simp)
                clear hI' s aB oB kB
                by_cases hst : (pl : Int) + 1 = stop
                · have q : (((pl : Int) + 1) == stop) = true := by rw [hst]; simp
                  have HST := Lib.hid hst
                  clear hst
                  gi_wp2
                  exact ⟨keeps_set _ _ _, .inr ⟨rfl, by rw [HL'.out, HST.out], HI'.out⟩⟩
                · have q : (((pl : Int) + 1) == stop) = false := beq_eq_false_iff_ne.2 hst
                  clear hst
                  gi_wp2
                  exact ⟨keeps_set _ _ _, HKP.out _, HI'.out⟩
              · have q : ((y : Int) != (x : Int)) = true := by rw [bne_iff_ne]; omega
                have HN := Lib.hid (not_prefix (l := usedL N f7) (p := pre) (x := x) (y := y) (by rw [HP0.out]; exact HY.out) hyx)
                clear hyx s aB oB kB
                gi_wp2
                exact ⟨keeps_set _ _ _, .inl ⟨rfl, HN.out⟩⟩
            case done =>
              rintro D W hD ⟨s, aB, oB, kB, -⟩ hk
              rw [HU.out] at kB
              have ca := aB.cell
              have ck := kB.cell
              have cs := s.sb.cell
              have s2 := s.mark sM.mks hwM hD hk
              clear s
              go_wp2_with fail
              exact ⟨D :: Ds, rfl, ⟨k + 1, _, S7, B7, c7, f7, by omega, by simp, s2, frame_of _ _ rfl⟩, by simp [intOf]; omega⟩
            case stop =>
              rintro D c pre W hD hpre hx hk
              rcases hx with ⟨rfl, hn⟩ | ⟨rfl, hst, s, aB, oB, kB, -⟩
              · exact absurd hpre hn
              · have ca := aB.cell
                have ck := kB.cell
                have cs := s.sb.cell
                have s2 := s.mark sM.mks hwM hD hk
                have q : ((pre.length : Int) != stop) = false := by rw [hst]; simp
                clear s hst
                by_cases hpU : pre.length = U
                · have q2 : ((pre.length : Int) != (U : Int)) = false := by rw [hpU]; simp
                  have q3 : (pre.length != U) = false := by rw [hpU]; simp
                  clear hpU
                  go_wp2_with fail
                  exact ⟨D :: Ds, rfl, ⟨k + 1, _, S7, B7, c7, f7, by omega, by simp, s2, frame_of _ _ rfl⟩, by simp [intOf]; omega⟩
                · have q2 : ((pre.length : Int) != (U : Int)) = true := by rw [bne_iff_ne]; omega
                  have q3 : (pre.length != U) = true := by rw [bne_iff_ne]; exact hpU
                  clear hpU
                  go_wp2_with fail
                  exact ⟨D :: Ds, rfl, ⟨k + 1, _, S7, B7, c7, f7, by omega, by simp, s2, frame_of _ _ rfl⟩, by simp [intOf]; omega⟩
    · go_wp2_with fail
      refine (known_any wr).mono ?_
      rintro e WF ⟨rfl, bF⟩
      have sF := s.below bF
      have hc := sF.rb.cell
      have hf := sF.rb.frozen
      go_wp2_with fail
      refine leaves_marks (B := w.heap.size) Ds _ ?_ (sF.mks.set _ _) ?_
      · have := sF.st.below.size; simpa [World.setCell] using this
      · intro w' sh
        have hc' := shut_cell sh (sF.rb.set (.bool true)).cell
        exact ⟨_, by simp [results, Try.results6, go_sem, hc'], rfl, (sF.st.below.setCell (p := ⟨w.heap.size + 1, 0, none⟩) (by simp) _).trans sh.below⟩
end Go.Proofs.Ytljgpiljfigojaa
