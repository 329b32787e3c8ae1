/-
  The walk of the law RmapOne.
-/
import Derived.Test.YtlnddehknpfliaaOneP
import Derived.Test.YtlnddehknpfliaaFill
import Derived.Test.YtlnddehknpfliaaOpsI
namespace Go.Proofs.Ytlnddehknpfliaa
open Go.RowKit
attribute [local go_sem] Oper.semAt_some

/-- The worlds of the law: the map, its pointer's cell (w.size + 4), the result's (w.size). -/
structure OW (w W : World) (n D F b : Nat) (f : Fr) (M : Nat) : Prop where
  st : St w W D F b n n f
  r : Boxed W w.heap.size 4 (.bool false)
  m : Boxed W M 26 (.pointer (some ⟨D, 0, none⟩))
  neM : M ≠ F ∧ M ≠ b ∧ M ≠ w.heap.size ∧ w.heap.size ≤ M
  neR : w.heap.size ≠ F ∧ w.heap.size ≠ b
section
variable {w W W' : World} {n D F b M : Nat} {f : Fr}
theorem OW.to (h : OW w W n D F b f M) (k : Below W.heap.size W W') : OW w W' n D F b f M := ⟨h.st.belowW k, boxed_below h.r k, boxed_below h.m k, h.neM, h.neR⟩
theorem OW.two (h : OW w W n D F b f M) {f' : Fr} (s : St w W' D F b n n f') (k : Two W W' F b) : OW w W' n D F b f' M :=
  ⟨s, boxed_two h.r k h.neR.1 h.neR.2, boxed_two h.m k h.neM.1 h.neM.2.1, h.neM, h.neR⟩
theorem OW.step {B : Nat} (h : OW w W n D F b f M) (st : Step B W W') (hb : b < B) (hw : w.heap.size ≤ B) : OW w W' n D F b f M :=
  ⟨h.st.step st hb hw, boxed_step h.r st, boxed_step h.m st, h.neM, h.neR⟩
theorem OW.only {N : Nat} (h : OW w W n D F b f M) (k : Only W W' N) (h1 : N ≠ D ∧ N ≠ F ∧ N ≠ b ∧ N ≠ M ∧ N ≠ w.heap.size) (hN : w.heap.size ≤ N) : OW w W' n D F b f M :=
  ⟨⟨h.st.tt.of_blocks k.size (k.block D h.st.tt.srow.lt (fun e => h1.1 (by cases e; rfl))) (k.block F h.st.tt.ltF.2 (fun e => h1.2.1 (by cases e; rfl))) (k.block b h.st.tt.ltb.2 (fun e => h1.2.2.1 (by cases e; rfl))), below_only h.st.below k hN, h.st.own⟩,
    boxed_only h.r k h1.2.2.2.2.symm, boxed_only h.m k h1.2.2.2.1.symm, h.neM, h.neR⟩
end

theorem lt_eqs {a b a' b' : Nat} (h1 : a = a') (h2 : b = b') (h : a' < b') : a < b := by omega
theorem frame_of (T : Array Value) (L : (Nat → Value) → Array Value) (h : T = L (fun i => T.getD i undef)) : ∃ u, T = L u := ⟨_, h⟩
/-- The block of the loop's variable. -/
structure PB (w : World) (n D F b M N pb : Nat) : Prop where
  nD : pb ≠ D
  nF : pb ≠ F
  nb : pb ≠ b
  nM : pb ≠ M
  nN : pb ≠ N
  nR : pb ≠ w.heap.size
  ge : w.heap.size ≤ pb
/-- The block of the last page. -/
structure LB (w : World) (D F b M N pb L : Nat) : Prop where
  nD : L ≠ D
  nF : L ≠ F
  nb : L ≠ b
  nM : L ≠ M
  nN : L ≠ N
  nP : L ≠ pb
  nR : L ≠ w.heap.size
  ge : w.heap.size ≤ L
/-- The worlds of a process' round. -/
structure RW (w W : World) (n D F b : Nat) (f : Fr) (M N pb L q : Nat) (pre : List (Nat × Nat)) (Ds : List Nat) : Prop where
  ow : OW w W n D F b f M
  nB : Boxed W N 3 (.int .i64 ((cntF f n : Int) - (sumP f n q : Int) - (pre.length : Int)))
  pB : Boxed W pb 3 (.int .i64 ((q : Int) + 1))
  lB : Boxed W L 3 (.int .i64 (lastP pre))
  mks : Marks w.heap.size W Ds
theorem RW.step {w W W' : World} {n D F b M N pb L q : Nat} {f : Fr} {pre : List (Nat × Nat)} {Ds : List Nat} {B : Nat} (h : RW w W n D F b f M N pb L q pre Ds) (st : Step B W W') (hb : b < B) (hw : w.heap.size ≤ B) (hD : ∀ D ∈ Ds, D < B) : RW w W' n D F b f M N pb L q pre Ds :=
  ⟨h.ow.step st hb hw, boxed_step h.nB st, boxed_step h.pB st, boxed_step h.lB st, ⟨fun D h' => ⟨(h.mks.lay D h').1, ((st.below (B' := D + 1) (hD D h') (h.mks.lt h')).block D (Nat.lt_succ_self D)).trans (h.mks.lay D h').2⟩, h.mks.nd⟩⟩
theorem RW.mark {w W W0 : World} {n D F b M N pb L q K : Nat} {f : Fr} {pre : List (Nat × Nat)} {Ds : List Nat} (h : RW w W n D F b f M N pb L q pre Ds) (hw : w.heap.size ≤ W0.heap.size) (m0 : Marks w.heap.size W0 Ds) (hK : W0.heap.size ≤ K) (hk : W.heap[K]? = some (.deferred (some []))) :
    RW w W n D F b f M N pb L q pre (K :: Ds) := ⟨h.ow, h.nB, h.pB, h.lB, h.mks.push' m0 hw hK hk⟩
section
variable {w W W' : World} {n D F b M N pb L q : Nat} {f : Fr} {pre : List (Nat × Nat)} {Ds : List Nat}
theorem RW.to (h : RW w W n D F b f M N pb L q pre Ds) (k : Below W.heap.size W W') : RW w W' n D F b f M N pb L q pre Ds :=
  ⟨h.ow.to k, boxed_below h.nB k, boxed_below h.pB k, boxed_below h.lB k, h.mks.below k⟩
theorem RW.next (h : RW w W n D F b f M N pb L q pre Ds) (hL : LB w D F b M N pb L) (hP : PB w n D F b M N pb) (hN : N ≠ D ∧ N ≠ F ∧ N ≠ b ∧ N ≠ M ∧ N ≠ w.heap.size) (hw : w.heap.size ≤ N) (x : Nat × Nat) {z : Int}
    (hz : (cntF f n : Int) - (sumP f n q : Int) - (pre.length : Int) = z) :
    RW w ((W.setCell ⟨L, 0, none⟩ (.int .i64 (x.1 : Int))).setCell ⟨N, 0, none⟩ (.int .i64 (z - 1))) n D F b f M N pb L q (pre ++ [x]) Ds := by
  have o1 := only_set (only_refl W L) 0 (.int .i64 (x.1 : Int))
  have o2 := only_set (only_refl (W.setCell ⟨L, 0, none⟩ (.int .i64 (x.1 : Int))) N) 0 (.int .i64 (z - 1))
  refine ⟨(h.ow.only o1 ⟨hL.nD, hL.nF, hL.nb, hL.nM, hL.nR⟩ hL.ge).only o2 hN hw, ?_, boxed_only (boxed_only h.pB o1 hL.nP.symm) o2 hP.nN, ?_, (h.mks.set _ _).set _ _⟩
  · have := (boxed_only h.nB o1 hL.nN.symm).set (.int .i64 (z - 1))
    rw [show (cntF f n : Int) - (sumP f n q : Int) - ((pre ++ [x]).length : Int) = z - 1 by rw [List.length_append, ← hz]; simp; omega]
    exact this
  · have := boxed_only (h.lB.set (.int .i64 (x.1 : Int))) o2 hL.nN
    rwa [lastP_snoc]
end
theorem sumP_le (f : Fr) (n : Nat) {p q : Nat} (h : p ≤ q) : sumP f n p ≤ sumP f n q := by
  induction q with
  | zero => obtain rfl : p = 0 := by omega
            exact Nat.le_refl _
  | succ q ih =>
    rcases Nat.lt_or_ge p (q + 1) with h1 | h1
    · exact Nat.le_trans (ih (by omega)) (Nat.le_add_right _ _)
    · obtain rfl : p = q + 1 := by omega
      exact Nat.le_refl _
/-- How many processes are left. -/
def pidLeft (T : Array Value) (W : World) : Nat := match T.getD 16 undef with
  | .pointer (some p) => match W.cell? p with
    | some v => 9 - (intOf v).toNat
    | none => 0
  | _ => 0

theorem pidLeft_of {T : Array Value} {W : World} {p : Int} {pb t : Nat} (h : T.getD 16 undef = .pointer (some ⟨pb, 0, none⟩)) (hB : Boxed W pb t (.int .i64 p)) : pidLeft T W = 9 - p.toNat := by
  unfold pidLeft
  rw [h]
  simp only [hB.cell, intOf]
set_option maxRecDepth 100000 in
set_option maxHeartbeats 8000000 in
theorem one_any (n0 : Int) (a : Option Addr) (len cap bo off : Nat) (V : Nat → Nat → Int) (w : World) (o : OpsI w a len bo off 4 V) (hlen : len ≤ 9223372036854775807) :
    Calls Try.prog 5 #[.int .i64 n0, .slice a len cap] w fun e w' => e = .returned (.bool true) ∧ Below w.heap.size w w' := by
  refine calls_of_wp_marks Try.func5 rfl ?_
  simp only [Try.ntmps5, List.size_toArray, List.length_cons, List.length_nil, Nat.reduceAdd, Nat.reduceSub, Array.replicate_succ, Array.replicate_zero, List.push_toArray, List.append_toArray, List.nil_append, List.cons_append]
  have bx := below_new w (.cells #[.bool false] 4)
  have q2 := Boxed.new w 4 (.bool false)
  by_cases hbad : 150 < len ∨ (¬ 150 < len ∧ 40 < n0)
  · rcases hbad with h | ⟨h1, h2⟩
    case' inr => have d2 : decide ((150 : Int) < (len : Int)) = false := by simp; omega
    all_goals
      go_wp2_with fail
      refine (known_any _).mono ?_
      rintro e WF ⟨rfl, bF⟩
      have r := boxed_below q2 bF
      have hc := r.cell
      have hf := r.frozen
      have hB := below_then bx bF
      go_wp2_with fail
      refine leaves_marks (B := w.heap.size) [] _ ?_ (marks_nil _ _) ?_
      · have := hB.size; simpa [World.setCell] using this
      · intro w' sh
        have hc' := shut_cell sh (r.set (.bool true)).cell
        exact ⟨_, by simp [results, Try.results5, go_sem, hc'], rfl, (hB.setCell (p := ⟨w.heap.size, 0, none⟩) (Nat.le_refl _) _).trans sh.below⟩
  · have d1 : decide ((40 : Int) < n0) = false := by simp; omega
    have d2 : decide ((150 : Int) < (len : Int)) = false := by simp; omega
    have d3 : decide (150 < len) = false := by simp; omega
    go_wp2_with fail
    generalize w.alloc (.cells #[.bool false] 4) = w1 at *
    refine (new_st bx n0 rfl).mono ?_
    rintro e w2 ⟨rfl, s2, bN⟩
    have hN := clampN_le n0
    have hw1 : w.heap.size < w1.heap.size := q2.lt
    have hw2 := s2.tt.srow.lt
    generalize clampN n0 = n at *
    have bA := below_new w2 (.cells #[.pointer (some ⟨w1.heap.size + 2, 0, none⟩)] 26)
    have s : OW w (w2.alloc (.cells #[.pointer (some ⟨w1.heap.size + 2, 0, none⟩)] 26)) n (w1.heap.size + 2) w1.heap.size (w1.heap.size + 1) none0 w2.heap.size :=
      ⟨s2.belowW bA, boxed_below (boxed_below q2 bN) bA, Boxed.new _ _ _, ⟨by omega, by omega, by omega, by omega⟩, by omega, by omega⟩
    clear s2 bN bA bx q2 d1 d2 d3
    go_wp2_with fail
    generalize w2.alloc (.cells #[.pointer (some ⟨w1.heap.size + 2, 0, none⟩)] 26) = w3 at *
    generalize w2.heap.size = M at *
    generalize w1.heap.size + 2 = D at *
    generalize w1.heap.size + 1 = b at *
    generalize w1.heap.size = F at *
    clear hw1 hw2
    go_loopw [35] (fun v wr => ∃ k : Nat, k ≤ len ∧ v = .int .i64 k ∧ ∃ f : Fr, OW w wr n D F b f M) (fun v _ => len - (intOf v).toNat)
    case atStart => exact ⟨0, by omega, rfl, _, s⟩
    case round =>
      clear s
      obtain ⟨k, hk, rfl, f, s⟩ := hrel
      by_cases hlt : k < len
      · have o' := o.below s.st.below
        have ck := o'.c0 hlt (by omega)
        have c1 := o'.cell k hlt 1 (by omega)
        have c2 := o'.cell k hlt 2 (by omega)
        have c3 := o'.cell k hlt 3 (by omega)
        have cm := s.m.cell
        obtain rfl := o.at_ (by omega)
        have sd := s.to (below_drewN (Below.refl _ _) 1)
        rcases Decidable.em (V k 0 = 1) with hK | hK
        · have q : (V k 0 == 1) = true := by rw [hK]; rfl
          clear hK
          go_wp2_with fail
          go_still_tail 6, (by kernel_rfl)
          change wpList _ _ _ _ _ wr.drew
          go_wp2_with fail
          refine (clear_st sd.st (V k 1) rfl).mono ?_
          rintro e w5 ⟨rfl, s5, t5⟩
          have s6 := sd.two s5 t5
          go_wp2_with fail
          go_roundw
          case rel => exact ⟨k + 1, by omega, by go_num, _, s6⟩
          case measure => simp [intOf]; omega
        · have q : (V k 0 == 1) = false := beq_eq_false_iff_ne.2 hK
          clear hK
          go_wp2_with fail
          go_still_tail 16, (by kernel_rfl)
          change wpList _ _ _ _ _ wr.drew
          go_wp2_with fail
          refine (set_st sd.st (V k 1) (V k 2) (V k 3) rfl).mono ?_
          rintro e w5 ⟨rfl, s5, t5⟩
          have s6 := sd.two s5 t5
          go_wp2_with fail
          go_roundw
          case rel => exact ⟨k + 1, by omega, by go_num, _, s6⟩
          case measure => simp [intOf]; omega
      · have z1 := s.st.tt.srow.lt
        have z2 := s.st.tt.ltF.2
        have z3 := s.st.tt.ltb.2
        have z4 := s.m.lt
        have z5 := s.r.lt
        have bA := below_new wr (.cells #[.int .i64 0] 3)
        have sN := Boxed.new wr 3 (.int .i64 0)
        have s3 := s.to bA
        have hNe : wr.heap.size ≠ D ∧ wr.heap.size ≠ F ∧ wr.heap.size ≠ b ∧ wr.heap.size ≠ M ∧ wr.heap.size ≠ w.heap.size := ⟨by omega, by omega, by omega, by omega, by omega⟩
        have hNw : w.heap.size ≤ wr.heap.size := by omega
        have cm := s3.m.cell
        clear s bA
        go_wp2_with fail
        generalize wr.alloc (.cells #[.int .i64 0] 3) = W3 at *
        generalize wr.heap.size = N at *
        clear z1 z2 z3 z4 z5
        refine (frames_any s3.st.tt).mono ?_
        rintro e w' ⟨rfl, rfl⟩
        go_wp2_with fail
        go_loopw [71] (fun v wr => ∃ i : Nat, i ≤ n ∧ v = .int .i64 i ∧ OW w wr n D F b f M ∧ Boxed wr N 3 (.int .i64 (cntF f i : Int))) (fun v _ => n - (intOf v).toNat)
        case atStart => exact ⟨0, by omega, rfl, s3, sN⟩
        case round =>
          clear s3 sN cm
          obtain ⟨i, hi, rfl, s, nB⟩ := hrel
          have cm := s.m.cell
          by_cases hin : i < n
          · have GA := Lib.hid (getF_nat (f := f) hin)
            by_cases hz : (f i).1 = 0
            · have q : ((f i).1 != (0 : Int)) = false := by rw [hz]; rfl
              have hcs := cntF_succ f i
              rw [if_pos hz, Nat.add_zero] at hcs
              have HC := Lib.hid hcs
              clear hz hcs
              go_wp2_with fail
              refine (get_st s.st _ GA.out).mono ?_
              rintro e w5 ⟨rfl, s5, b5⟩
              have s6 := s.to b5
              have n6 := boxed_below nB b5
              clear s nB s5 cm
              go_wp2_with fail
              go_roundw
              case rel => exact ⟨i + 1, by omega, by go_num, s6, by rw [HC.out]; exact n6⟩
              case measure => simp [intOf]; omega
            · have q : ((f i).1 != (0 : Int)) = true := by rw [bne_iff_ne]; exact hz
              have hcs := cntF_succ f i
              rw [if_neg hz] at hcs
              have HC := Lib.hid hcs
              have HZ := Lib.hid hz
              have hle : cntF f i ≤ 1024 := by
                have h1 := List.length_filter_le (fun k => (f k).1 != 0) (List.range i)
                rw [List.length_range] at h1
                unfold cntF; omega
              clear hz hcs
              go_wp2_with fail
              refine (get_st s.st _ GA.out).mono ?_
              rintro e w5 ⟨rfl, s5, b5⟩
              have s6 := s.to b5
              have n6 := boxed_below nB b5
              have cn := n6.cell
              have fn := n6.frozen
              clear s nB s5 cm b5
              have s7 := s6.only (only_set (only_refl w5 N) 0 (.int .i64 ((cntF f i : Int) + 1))) hNe hNw
              have n7 := n6.set (.int .i64 ((cntF f i : Int) + 1))
              have cm := s7.m.cell
              have n8 : Boxed (w5.setCell ⟨N, 0, none⟩ (.int .i64 ((cntF f i : Int) + 1))) N 3 (.int .i64 (cntF f (i + 1) : Int)) := by rw [HC.out]; exact n7
              clear n7 s6 n6
              go_wp2_with fail
              clear cn fn
              go_loopw [86] (fun v wr => ∃ k : Nat, k ≤ i ∧ v = .int .i64 k ∧ OW w wr n D F b f M ∧ Boxed wr N 3 (.int .i64 (cntF f (i + 1) : Int))) (fun v _ => i - (intOf v).toNat)
              case atStart => exact ⟨0, by omega, rfl, s7, n8⟩
              case round =>
                clear s7 n8 cm
                obtain ⟨k, hk, rfl, s, nB⟩ := hrel
                have cm := s.m.cell
                have HS := Lib.hid s
                by_cases hki : k < i
                · have GK := Lib.hid (getF_nat (n := n) (f := f) (k := k) (by omega))
                  have hinj := s.st.tt.ok.inj k i (by omega) hin
                  have HJ : (f k).1 = 0 ∨ ((f k).1 ≠ 0 ∧ (f k).1 ≠ (f i).1) ∨ ((f k).1 ≠ 0 ∧ (f k).1 = (f i).1 ∧ (f k).2 ≠ (f i).2) := by
                    by_cases h0 : (f k).1 = 0
                    · exact .inl h0
                    · by_cases h1 : (f k).1 = (f i).1
                      · by_cases h2 : (f k).2 = (f i).2
                        · have := hinj (Prod.ext h1 h2) HZ.out
                          omega
                        · exact .inr (.inr ⟨h0, h1, h2⟩)
                      · exact .inr (.inl ⟨h0, h1⟩)
                  clear hinj HS
                  rcases HJ with h | ⟨h, h'⟩ | ⟨h, h', h''⟩
                  case' inl =>
                    have qa : ((f k).1 != (0 : Int)) = false := by rw [h]; rfl
                  case' inr.inl =>
                    have qa : ((f k).1 != (0 : Int)) = true := by rw [bne_iff_ne]; exact h
                    have qb : ((f k).1 == (f i).1) = false := beq_eq_false_iff_ne.2 h'
                  case' inr.inr =>
                    have qa : ((f k).1 != (0 : Int)) = true := by rw [bne_iff_ne]; exact h
                    have qb : ((f k).1 == (f i).1) = true := by rw [h']; simp
                    have qc : ((f k).2 == (f i).2) = false := beq_eq_false_iff_ne.2 h''
                  all_goals
                    clear h
                    try clear h'
                    try clear h''
                    go_wp2_with fail
                    refine (get_st s.st _ GK.out).mono ?_
                    rintro e w8 ⟨rfl, s8, b8⟩
                    have s9 := s.to b8
                    have n9 := boxed_below nB b8
                    clear s nB s8 cm
                    go_wp2_with fail
                    go_roundw
                    case rel => exact ⟨k + 1, by omega, by go_num, s9, n9⟩
                    case measure => simp [intOf]; omega
                · have hki' : k = i := by omega
                  subst hki'
                  go_wp2_with fail
                  go_roundw
                  case rel => exact ⟨k + 1, by omega, by go_num, s, nB⟩
                  case measure => simp [intOf]; omega
          · have hil : i = n := by omega
            rw [hil] at nB ⊢
            clear hil hin hi
            go_wp2_with fail
            have hpz := s.st.tt.srow.lt
            have hpF := s.st.tt.ltF.2
            have hpb := s.st.tt.ltb.2
            have hpM := s.m.lt
            have hpN := nB.lt
            have hpR := s.r.lt
            have hpw := s.st.below.size
            have bp := below_new wr (.cells #[.int .i64 1] 3)
            have sp := s.to bp
            have np := boxed_below nB bp
            have pp := Boxed.new wr 3 (.int .i64 1)
            clear s nB bp cm
            have heq := eq_fnF
            have h0 : PB w n D F b M N wr.heap.size := ⟨by omega, by omega, by omega, by omega, by omega, by omega, by omega⟩
            clear hpz hpF hpb hpM hpN hpR hpw
            refine wp_loop_marks (fun T Ds wr => ∃ (q pb : Nat), q ≤ 8 ∧ OW w wr n D F b f M ∧ Marks w.heap.size wr Ds ∧ Boxed wr N 3 (.int .i64 ((cntF f n : Int) - (sumP f n q : Int))) ∧ Boxed wr pb 3 (.int .i64 ((q : Int) + 1)) ∧ PB w n D F b M N pb ∧ ∃ u : Nat → Value, T = #[Value.int IntKind.i64 n0, Value.slice a len cap, undef, undef, Value.pointer (some { block := w.heap.size, off := 0 }), Value.pointer (some { block := M, off := 0 }), u6, Value.pointer (some { block := N, off := 0 }), u8, u9, u10, u11, u12, u13, u14, u15, .pointer (some ⟨pb, 0, none⟩), u 17, u 18, u 19, u 20, u 21, u 22, Value.slice a len cap, Value.int IntKind.i64 ↑len, Value.bool false, Value.bool false, Value.int IntKind.i64 n0, Value.bool false, Value.bool false, undef, Value.int IntKind.i64 n0, Value.pointer (some { block := D, off := 0 }), Value.slice a len cap, Value.int IntKind.i64 ↑len, Value.int IntKind.i64 ↑k, Value.bool false, u37, u38, u39, u40, u41, u42, u43, u44, u45, u46, u47, u48, u49, u50, u51, u52, u53, u54, u55, u56, u57, u58, u59, u60, u61, u62, u63, u64, u65, u66, u67, u68, Value.pointer (some { block := D, off := 0 }), Value.int IntKind.i64 ↑n, Value.int IntKind.i64 ↑n, Value.bool false, u73, u74, u75, u76, u77, u78, u79, u80, u81, u82, u83, u84, u85, u86, u87, u88, u89, u90, u91, u92, u93, u94, u95, u96, u97, u98, u99, u100, u101, u102, u103, u104, u105, u106, u107, u108, u 109, u 110, u 111, u 112, u 113, u 114, u 115, u 116, u 117, u 118, u 119, undef, undef, u 122, u 123, u 124, u 125, u 126, u 127, u 128, u 129, u 130, u 131, u 132, u 133, u 134, u 135, u 136, u 137, u 138, u 139, u 140, u 141, u 142, u 143, u 144, u 145, u 146, u 147, u 148, u 149, undef, undef, undef, undef, undef])
              pidLeft (Ds0 := []) ?start ?round4
            case start => exact ⟨0, wr.heap.size, by omega, sp, marks_nil _ _, by simpa [sumP] using np, by simpa using pp, h0, frame_of _ _ rfl⟩
            case round4 =>
              clear sp np pp h0
              rintro T Ds wr ⟨q, pb, hq, s, mk, nB, pB, hpb, u, rfl⟩
              have cp := pB.cell
              have cm := s.m.cell
              by_cases hq8 : q < 8
              · have z1 := s.st.tt.srow.lt
                have z2 := s.st.tt.ltF.2
                have z3 := s.st.tt.ltb.2
                have z4 := s.m.lt
                have z5 := s.r.lt
                have z6 := nB.lt
                have z7 := pB.lt
                have bL := below_new wr (.cells #[.int .i64 (-1)] 3)
                have sL := s.to bL
                have nL := boxed_below nB bL
                have pL := boxed_below pB bL
                have mL := mk.below bL
                have lL := Boxed.new wr 3 (.int .i64 (-1))
                have cm := sL.m.cell
                have cpL := pL.cell
                have hLe : LB w D F b M N pb wr.heap.size := ⟨by omega, by omega, by omega, by omega, by omega, by omega, by omega, by have := s.st.below.size; omega⟩
                have HPB := Lib.hid pB
                clear s nB pB mk bL z1 z2 z3 z4 z5 z6 z7
                go_wp2_with fail
                generalize wr.alloc (.cells #[.int .i64 (-1)] 3) = W3 at *
                generalize wr.heap.size = L at *
                refine (of_any (some ⟨D, 0, none⟩) _ W3).mono ?_
                rintro e WB ⟨rfl, rfl⟩
                have cm2 := (boxed_below sL.m (below_alloc (below_new W3 (.cells #[.pointer (some ⟨D, 0, none⟩)] 26)) (.cells #[.int .i64 ((q : Int) + 1)] 3))).cell
                have cp2 := (boxed_below pL (below_alloc (below_new W3 (.cells #[.pointer (some ⟨D, 0, none⟩)] 26)) (.cells #[.int .i64 ((q : Int) + 1)] 3))).cell
                go_wp2_with fail
                refine (of_any (some ⟨D, 0, none⟩) _ _).mono ?_
                rintro e WC ⟨rfl, rfl⟩
                have hX := (Boxed.new ((W3.alloc (.cells #[.pointer (some ⟨D, 0, none⟩)] 26)).alloc (.cells #[.int .i64 ((q : Int) + 1)] 3)) 26 (.pointer (some ⟨D, 0, none⟩))).alloc (.cells #[.int .i64 ((q : Int) + 1)] 3)
                have hY := Boxed.new (((W3.alloc (.cells #[.pointer (some ⟨D, 0, none⟩)] 26)).alloc (.cells #[.int .i64 ((q : Int) + 1)] 3)).alloc (.cells #[.pointer (some ⟨D, 0, none⟩)] 26)) 3 (.int .i64 ((q : Int) + 1))
                simp only [World.size_alloc] at hX hY
                have bD := below_alloc (below_alloc (below_alloc (below_new W3 (.cells #[.pointer (some ⟨D, 0, none⟩)] 26)) (.cells #[.int .i64 ((q : Int) + 1)] 3)) (.cells #[.pointer (some ⟨D, 0, none⟩)] 26)) (.cells #[.int .i64 ((q : Int) + 1)] 3)
                have s4 := sL.to bD
                have n4 := boxed_below nL bD
                have p4 := boxed_below pL bD
                have l4 := boxed_below lL bD
                have m4 := mL.below bD
                have hLlt := lL.lt
                have hNlt := nL.lt
                clear sL nL pL lL mL cm cpL cm2 cp2
                go_wp2_with fail
                generalize (((W3.alloc (.cells #[.pointer (some ⟨D, 0, none⟩)] 26)).alloc (.cells #[.int .i64 ((q : Int) + 1)] 3)).alloc (.cells #[.pointer (some ⟨D, 0, none⟩)] 26)).alloc (.cells #[.int .i64 ((q : Int) + 1)] 3) = W4 at *
                have hT := tells_of (pid := (q : Int) + 1) (wf64 (by omega) (by omega)) s4.st.tt hX hY
                have hXW := hX.lt
                have hYW := hY.lt
                have hXL : L < W3.heap.size + 1 + 1 := by omega
                have hXN : N < W3.heap.size + 1 + 1 := by omega
                generalize hXe : W3.heap.size + 1 + 1 = X at *
                generalize hYe : X + 1 = Y at *
                have hw4 : w.heap.size ≤ W4.heap.size := s4.st.below.size
                have hb4 : b < W4.heap.size := s4.st.tt.ltb.2
                have hD4 : ∀ D ∈ Ds, D < W4.heap.size := fun D hD => m4.lt hD
                have hlen := ofL_len (pid := (q : Int) + 1) s4.st.tt.ok (by omega)
                have hsum : sumP f n (q + 1) = sumP f n q + cntP f n ((q : Int) + 1) := rfl
                have hb1 : cntF f n ≤ 1024 := by
                  have h1 := List.length_filter_le (fun k => (f k).1 != 0) (List.range n)
                  rw [List.length_range] at h1
                  unfold cntF; omega
                have hb2 : sumP f n (q + 1) ≤ 1024 := Nat.le_trans (sumP_le f n (q := 8) (by omega)) (by rw [sum_all s4.st.tt.ok.may]; exact hb1)
                have hb3 : (ofL n f ((q : Int) + 1) 1024).length ≤ 1024 := by omega
                have HT := Lib.hid hT
                have HLN := Lib.hid hlen
                have HSM := Lib.hid hsum
                have HD4 := Lib.hid hD4
                clear hT hX hY bD hlen hsum hD4
                refine wp_range2 (α := Nat × Nat) 120 121 18 19 (gf := 21) (lb := #[.pointer (some ⟨X, 0, none⟩), .pointer (some ⟨Y, 0, none⟩)]) rfl (fun _ _ => by kernel_rfl) HT.out
                  (fun k hk => by
                    have h1 := s4.st.tt.srow.lt
                    rcases hk with rfl | rfl | rfl | rfl <;> omega)
                  (fun pre W => RW w W n D F b f M N pb L q pre Ds ∧ W4.heap.size ≤ W.heap.size)
                  (fun c s W => ¬ (s <+: ofL n f ((q : Int) + 1) 1024))
                  (fun s W W' h st => ⟨h.1.step st hb4 hw4 HD4.out, Nat.le_trans h.2 (by obtain ⟨row, hg, _⟩ := st.grown; exact hg.size)⟩) (fun _ _ _ _ h _ => h) ⟨⟨s4, by simpa using n4, p4, l4, m4⟩, Nat.le_refl _⟩ ?assign ?body ?done ?stop
                case assign =>
                  intro l x W K hK
                  gi_wp2
                  exact hK
                case body =>
                  rintro l pre x W hl s hlen
                  obtain ⟨s, hW⟩ := s
                  obtain ⟨px, kx⟩ := x
                  simp only [List.setIfInBounds_toArray, List.set_cons_zero, List.set_cons_succ]
                  have cm := s.ow.m.cell
                  obtain ⟨pi, pg, hp⟩ : ∃ x y, getF n f (kx : Int) = (x, y) := ⟨_, _, rfl⟩
                  have hnx : pre ++ [(px, kx)] <+: ofL n f ((q : Int) + 1) 1024 → pi = (q : Int) + 1 ∧ pg = (px : Int) ∧ lastP pre < (px : Int) := fun h => by
                    obtain ⟨h1, h2, _, h4⟩ := ofL_next h
                    rw [getF_nat h1] at hp
                    simp only at h1 h2 h4
                    rw [h2] at hp
                    cases hp
                    exact ⟨rfl, rfl, h4⟩
                  have HNX := Lib.hid hnx
                  have HP := Lib.hid hp
                  clear hnx hp
                  gi_wp2
                  refine ⟨trivial, ?_⟩
                  refine (CallsIn.inRound l (callsIn_wide.2 (get_st s.ow.st (kx : Int) HP.out))).mono ?_
                  rintro e W5 ⟨rfl, -, b5⟩
                  have s5 := s.to b5
                  have hkf := keeps_below (B := W4.heap.size) b5
                  have hkp : Kept (keepT X Y D b) W W5 := fun j hj => b5.block j (by
                    have h1 := s.ow.st.tt.srow.lt
                    have h2 := s.ow.st.tt.ltb.2
                    rcases hj with rfl | rfl | rfl | rfl <;> omega)
                  have HKF := Lib.hid hkf
                  have HKP := Lib.hid hkp
                  have cr := s5.ow.r.cell
                  have fr := s5.ow.r.frozen
                  have cp := s5.pB.cell
                  have cl := s5.lB.cell
                  have fl := s5.lB.frozen
                  have cn := s5.nB.cell
                  have fn := s5.nB.frozen
                  have hb5 := b5.size
                  clear s cm b5 hkf hkp
                  obtain ⟨la, hla⟩ : ∃ y, lastP pre = y := ⟨_, rfl⟩
                  obtain ⟨z, hz, hz1, hz2⟩ : ∃ z : Int, (cntF f n : Int) - (sumP f n q : Int) - (pre.length : Int) = z ∧ -9000 ≤ z ∧ z ≤ 9000 := ⟨_, rfl, by
                    have : sumP f n q ≤ sumP f n (q + 1) := Nat.le_add_right _ _
                    omega, by omega⟩
                  rw [hz] at cn
                  rw [hla] at cl
                  have HLA := Lib.hid hla
                  have HZ := Lib.hid hz
                  clear hz hla
                  by_cases h1 : pi = 0
                  · have qa : (pi != (0 : Int)) = false := by rw [h1]; rfl
                    have HN := Lib.hid (fun h => by have := (HNX.out h).1; omega : ¬ (pre ++ [(px, kx)] <+: ofL n f ((q : Int) + 1) 1024))
                    clear h1 s5
                    gi_wp2
                    exact ⟨HKF.out.trans (keeps_set _ _ _), HN.out⟩
                  · have qa : (pi != (0 : Int)) = true := by rw [bne_iff_ne]; exact h1
                    clear h1
                    by_cases h2 : pi = (q : Int) + 1
                    · have qb : (pi != ((q : Int) + 1)) = false := by rw [h2]; simp
                      clear h2
                      by_cases h3 : pg = (px : Int)
                      · have qc : (pg != (px : Int)) = false := by rw [h3]; simp
                        clear h3
                        by_cases h4 : (px : Int) ≤ la
                        · have HN := Lib.hid (fun h => by have := (HNX.out h).2.2; have := HLA.out; omega : ¬ (pre ++ [(px, kx)] <+: ofL n f ((q : Int) + 1) 1024))
                          clear s5
                          gi_wp2
                          exact ⟨HKF.out.trans (keeps_set _ _ _), HN.out⟩
                        · have hLN := hLe.nN
                          have HR := Lib.hid (s5.next hLe hpb hNe hNw (px, kx) HZ.out)
                          have hx1 : Kept (keepT X Y D b) W ((W5.setCell ⟨L, 0, none⟩ (.int .i64 (px : Int))).setCell ⟨N, 0, none⟩ (.int .i64 (z - 1))) := fun j hj => by
                            have e1 := hLe.nD
                            have e2 := hLe.nb
                            have e3 := hNe.1
                            have e4 := hNe.2.2.1
                            rw [Below.heap_setCell _ _ _ _ (by rcases hj with rfl | rfl | rfl | rfl <;> simp <;> omega), Below.heap_setCell _ _ _ _ (by rcases hj with rfl | rfl | rfl | rfl <;> simp <;> omega)]
                            exact HKP.out j hj
                          have HK2 := Lib.hid hx1
                          have HW5 := Lib.hid (Nat.le_trans hW hb5)
                          clear s5 hx1 hb5 hW
                          gi_wp2
                          exact ⟨(HKF.out.trans (keeps_set _ _ _)).trans (keeps_set _ _ _), HK2.out, HR.out, by simpa [World.setCell] using HW5.out⟩
                      · have qc : (pg != (px : Int)) = true := by rw [bne_iff_ne]; exact h3
                        have HN := Lib.hid (fun h => h3 (HNX.out h).2.1 : ¬ (pre ++ [(px, kx)] <+: ofL n f ((q : Int) + 1) 1024))
                        clear h3 s5
                        gi_wp2
                        exact ⟨HKF.out.trans (keeps_set _ _ _), HN.out⟩
                    · have qb : (pi != ((q : Int) + 1)) = true := by rw [bne_iff_ne]; exact h2
                      have HN := Lib.hid (fun h => h2 (HNX.out h).1 : ¬ (pre ++ [(px, kx)] <+: ofL n f ((q : Int) + 1) 1024))
                      clear h2 s5
                      gi_wp2
                      exact ⟨HKF.out.trans (keeps_set _ _ _), HN.out⟩
                case stop =>
                  rintro M c pre W hM hpre hx hk
                  exact absurd hpre hx
                case done =>
                  rintro Mk W hM ⟨s, -⟩ hk
                  have s5 := s.mark hw4 m4 hM hk
                  have nB := s5.nB
                  rw [HLN.out] at nB
                  have hnv : (cntF f n : Int) - (sumP f n q : Int) - (cntP f n ((q : Int) + 1) : Int) = (cntF f n : Int) - (sumP f n (q + 1) : Int) := by rw [HSM.out]; omega
                  rw [hnv] at nB
                  clear hnv
                  have cp := s5.pB.cell
                  go_wp2_with fail
                  have bA := below_new W (.cells #[.int .i64 ((q : Int) + 1 + 1)] 3)
                  have pA := Boxed.new W 3 (.int .i64 ((q : Int) + 1 + 1))
                  have z1 := s5.ow.st.tt.srow.lt
                  have z2 := s5.ow.st.tt.ltF.2
                  have z3 := s5.ow.st.tt.ltb.2
                  have z4 := s5.ow.m.lt
                  have z5 := s5.ow.r.lt
                  have z6 := nB.lt
                  have z7 := s5.ow.st.below.size
                  refine ⟨Mk :: Ds, rfl, ⟨q + 1, W.heap.size, by omega, s5.ow.to bA, s5.mks.below bA, boxed_below nB bA, by simpa using pA, ⟨by omega, by omega, by omega, by omega, by omega, by omega, by omega⟩, frame_of _ _ rfl⟩, ?_⟩
                  exact lt_eqs (pidLeft_of (pb := W.heap.size) rfl pA) (pidLeft_of (pb := pb) rfl HPB.out) (by omega)
              · have hq' : q = 8 := by omega
                subst hq'
                have hz : ((cntF f n : Int) - (sumP f n 8 : Int)) = 0 := by rw [sum_all s.st.tt.ok.may]; omega
                rw [hz] at nB
                have cn := nB.cell
                clear hz hq8 hq
                go_wp2_with fail
                refine (known_any wr).mono ?_
                rintro e WF ⟨rfl, bF⟩
                have sF := s.to bF
                have mF := mk.below bF
                have hc := sF.r.cell
                have hf := sF.r.frozen
                clear s mk
                go_wp2_with fail
                refine leaves_marks (B := w.heap.size) Ds _ ?_ (mF.set _ _) ?_
                · have := sF.st.below.size; simpa [World.setCell] using this
                · intro w' sh
                  have hc' := shut_cell sh (sF.r.set (.bool true)).cell
                  exact ⟨_, by simp [results, Try.results5, go_sem, hc'], rfl, (sF.st.below.setCell (p := ⟨w.heap.size, 0, none⟩) (by show w.heap.size ≤ w.heap.size; omega) _).trans sh.below⟩
end Go.Proofs.Ytlnddehknpfliaa
