/-
  The walk of the law RmapFill.
-/
import Derived.Test.YtlnddehknpfliaaFillP
namespace Go.Proofs.Ytlnddehknpfliaa
open Go.RowKit
attribute [local go_sem] Oper.semAt_some

/-- The worlds of the law: what its variables hold. -/
structure FW (w W : World) (n fr D F b c : Nat) (f : Fr) (Ds : List Nat) : Prop where
  st : St w W D F b n c f
  b0 : Boxed W w.heap.size 3 (.int .i64 n)
  b1 : Boxed W (w.heap.size + 1) 3 (.int .i64 fr)
  r : Boxed W (w.heap.size + 2) 4 (.bool false)
  mks : Marks w.heap.size W Ds
  hF : w.heap.size + 3 ≤ F
  hb : w.heap.size + 3 ≤ b
section
variable {w W W' : World} {n fr D F b c : Nat} {f : Fr} {Ds : List Nat}
theorem FW.to (h : FW w W n fr D F b c f Ds) (k : Below W.heap.size W W') : FW w W' n fr D F b c f Ds :=
  ⟨h.st.belowW k, boxed_below h.b0 k, boxed_below h.b1 k, boxed_below h.r k, h.mks.below k, h.hF, h.hb⟩
theorem boxed_two {x t G d : Nat} {v : Value} (h : Boxed W x t v) (k : Two W W' G d) (h1 : x ≠ G) (h2 : x ≠ d) : Boxed W' x t v := (k.block x h.lt h1 h2).trans h
theorem TT.marks {base B : Nat} (s : TT W base D F b n c f) (m : Marks B W Ds) (k : Two W W' F b) : Marks B W' Ds :=
  ⟨fun D' hD => ⟨(m.lay D' hD).1, by
    have h := (m.lay D' hD).2
    refine (k.block D' (m.lt hD) (fun e => ?_) (fun e => ?_)).trans h
    · subst e
      rcases s.own.own.2 with ⟨h1, _⟩ | ⟨g', cap, cur, h1, hb, hg, _⟩
      · cases h1
      · cases h1
        rw [h] at hg; cases hg
    · subst e
      obtain ⟨es, clock, h1, _⟩ := s.map
      rw [h] at h1; cases h1⟩, m.nd⟩
theorem FW.two (h : FW w W n fr D F b c f Ds) {f' : Fr} (s : St w W' D F b n c f') (k : Two W W' F b) : FW w W' n fr D F b c f' Ds :=
  have hF := h.hF
  have hb := h.hb
  ⟨s, boxed_two h.b0 k (by omega) (by omega), boxed_two h.b1 k (by omega) (by omega), boxed_two h.r k (by omega) (by omega), h.st.tt.marks h.mks k, hF, hb⟩
end

section
variable {w W W' : World} {n fr D F b c : Nat} {f : Fr} {Ds : List Nat}
theorem TT.step {base B : Nat} (s : TT W base D F b n c f) (st : Step B W W') (hb : b < B) : TT W' base D F b n c f :=
  ⟨rowIs_step s.srow st, s.own.step st, s.map.of_block (by
    obtain ⟨row, hg, hr⟩ := st.grown
    exact hg.block b s.ltb.2 (fun e => by have := (hr b e.symm).1; omega)), s.mb, s.le, s.ok⟩
theorem St.step {w0 : World} {B : Nat} (s : St w0 W D F b n c f) (st : Step B W W') (hb : b < B) (hw : w0.heap.size ≤ B) : St w0 W' D F b n c f :=
  ⟨s.tt.step st hb, s.below.trans (st.below hw s.below.size), s.own⟩
theorem FW.step {B : Nat} (h : FW w W n fr D F b c f []) (st : Step B W W') (hb : b < B) (hw : w.heap.size ≤ B) : FW w W' n fr D F b c f [] :=
  ⟨h.st.step st hb hw, boxed_step h.b0 st, boxed_step h.b1 st, boxed_step h.r st, marks_nil _ _, h.hF, h.hb⟩
theorem FW.push {M : Nat} (h : FW w W n fr D F b c f Ds) (k : Below W.heap.size W W') (hD : W.heap.size ≤ M) (hk : W'.heap[M]? = some (.deferred (some []))) : FW w W' n fr D F b c f (M :: Ds) :=
  have h' := h.to k
  ⟨h'.st, h'.b0, h'.b1, h'.r, h.mks.push h.st.below.size hD hk k, h.hF, h.hb⟩
theorem FW.mark {M : Nat} (h : FW w W n fr D F b c f []) (hM : w.heap.size ≤ M) (hk : W.heap[M]? = some (.deferred (some []))) : FW w W n fr D F b c f [M] :=
  ⟨h.st, h.b0, h.b1, h.r, ⟨fun D' h' => by obtain rfl := List.mem_singleton.1 h'; exact ⟨hM, hk⟩, by simp⟩, h.hF, h.hb⟩
/-- A range over a function whose two loop variables lie in slots q, q'. -/
theorem wp_range2 {α : Type} {P : Program} {g : Operand} {assign body : Code} {Q : Exit → Act → World → Prop} {a : Act} {w : World} (p p' q q' : Nat)
    {gf : Nat} {lb : Array Value} (hg : a.eval g = .func (.func gf) #[] lb) (eg : ∀ args w, (callFunc gf args).run P w = .ok (.enter gf args) w)
    {e1 e2 : α → Value} {Keep : Nat → Prop} {L : List α} (hseq : Tells P gf lb (fun x => #[e1 x, e2 x]) Keep L w) (hkeep : ∀ k, Keep k → k < w.heap.size)
    (I : List α → World → Prop) (Ix : Code → List α → World → Prop) (hI : ∀ s W W', I s W → Step w.heap.size W W' → I s W') (hIx : ∀ c s W W', Ix c s W → Step w.heap.size W W' → Ix c s W') (h0 : I [] w)
    (hassign : ∀ (l : Nat) (x : α) (W : World) (K : Act → World → Prop), K { tmps := (((a.tmps.setIfInBounds p (e1 x)).setIfInBounds p' (e2 x)).setIfInBounds q (e1 x)).setIfInBounds q' (e2 x), defers := [] } W →
      assign.wpIn (Fence.wide.inRound l) 7 P (Exit.then K (fun _ _ _ => False)) { tmps := (a.tmps.setIfInBounds p (e1 x)).setIfInBounds p' (e2 x), defers := [] } W)
    (hbody : ∀ (l : Nat) (pre : List α) (x : α) (W : World), w.heap.size ≤ l → I pre W → pre.length < L.length →
      body.wpIn (Fence.wide.inRound l) 7 P (ownPostG w.heap.size (Kept Keep) I Ix (pre ++ [x]) W) { tmps := (((a.tmps.setIfInBounds p (e1 x)).setIfInBounds p' (e2 x)).setIfInBounds q (e1 x)).setIfInBounds q' (e2 x), defers := [] } W)
    (hdone : ∀ (D : Nat) (W : World), w.heap.size ≤ D → I L W → W.heap[D]? = some (.deferred (some [])) → Q .normal { a with defers := { target := .collected D, args := #[] } :: a.defers } W)
    (hstop : ∀ (D : Nat) (c : Code) (pre : List α) (W : World), w.heap.size ≤ D → pre <+: L → Ix c pre W → W.heap[D]? = some (.deferred (some [])) → c.wp P Q { a with defers := { target := .collected D, args := #[] } :: a.defers } W) :
    (Code.rangeFunc g #[p, p'] assign body).wp P Q a w :=
  wp_range hg eg hseq hkeep (fun _ => rfl) I Ix hI hIx h0 (fun x a' _ => a' = { tmps := (((a.tmps.setIfInBounds p (e1 x)).setIfInBounds p' (e2 x)).setIfInBounds q (e1 x)).setIfInBounds q' (e2 x), defers := [] }) (fun _ _ _ _ h _ => h)
    (fun l pre x W K hi hK => by
      have h := hassign l x W K (hK _ W (KeepsFrom.refl _ _) (fun _ _ => rfl) hi rfl)
      simpa using h)
    (fun l pre x a' W hl _ hi ha hlen => by subst ha; exact hbody l pre x W hl hi hlen) hdone hstop
end

theorem eq_fnF (a : Fn) (b c : Array Value) (W : World) : Sem.run Try.prog (binOp BinOp.eql 36 (Value.func a b c) Value.nilFunc) W = .ok (.bool false) W := by kernel_rfl

set_option maxRecDepth 100000 in
set_option maxHeartbeats 8000000 in
theorem fill_any (n0 pid fr0 : Int) (hp : (Lit.int .i64 pid).wf = true) (w : World) : Calls Try.prog 4 #[.int .i64 n0, .int .i64 pid, .int .i64 fr0] w fun e w' => e = .returned (.bool true) ∧ Below w.heap.size w w' := by
  refine calls_of_wp_marks Try.func4 rfl ?_
  simp only [Try.ntmps4, List.size_toArray, List.length_cons, List.length_nil, Nat.reduceAdd, Nat.reduceSub, Array.replicate_succ, Array.replicate_zero, List.push_toArray, List.append_toArray, List.nil_append, List.cons_append]
  have bx := below_alloc (below_alloc (below_new w (.cells #[.int .i64 n0] 3)) (.cells #[.int .i64 fr0] 3)) (.cells #[.bool false] 4)
  have q0 := ((Boxed.new w 3 (.int .i64 n0)).alloc (.cells #[.int .i64 fr0] 3)).alloc (.cells #[.bool false] 4)
  have q1 := (Boxed.new (w.alloc (.cells #[.int .i64 n0] 3)) 3 (.int .i64 fr0)).alloc (.cells #[.bool false] 4)
  have q2 := Boxed.new ((w.alloc (.cells #[.int .i64 n0] 3)).alloc (.cells #[.int .i64 fr0] 3)) 4 (.bool false)
  simp only [World.size_alloc] at q1 q2
  have hsz : (((w.alloc (.cells #[.int .i64 n0] 3)).alloc (.cells #[.int .i64 fr0] 3)).alloc (.cells #[.bool false] 4)).heap.size = w.heap.size + 3 := by simp
  by_cases hbad : n0 < 0 ∨ (0 ≤ n0 ∧ 200 < n0) ∨ (0 ≤ n0 ∧ n0 ≤ 200 ∧ pid < 1) ∨ (0 ≤ n0 ∧ n0 ≤ 200 ∧ 1 ≤ pid ∧ 8 < pid) ∨ (0 ≤ n0 ∧ n0 ≤ 200 ∧ 1 ≤ pid ∧ pid ≤ 8 ∧ fr0 < 0) ∨ (0 ≤ n0 ∧ n0 ≤ 200 ∧ 1 ≤ pid ∧ pid ≤ 8 ∧ 0 ≤ fr0 ∧ 800 < fr0)
  · rcases hbad with h | ⟨h1, h2⟩ | ⟨h1, h2, h3⟩ | ⟨h1, h2, h3, h4⟩ | ⟨h1, h2, h3, h4, h5⟩ | ⟨h1, h2, h3, h4, h5, h6⟩
    all_goals
      have c0 := q0.cell
      have c1 := q1.cell
      go_wp2_with fail
      refine (known_any _).mono ?_
      rintro e WF ⟨rfl, bF⟩
      have r := boxed_below q2 bF
      have hc := r.cell
      have hf := r.frozen
      have hB := below_then bx bF
      go_wp2_with fail
      refine leaves_marks (B := w.heap.size) [] _ ?_ (marks_nil _ _) ?_
      · have := hB.size; simpa [World.setCell] using this
      · intro w' sh
        have hc' := shut_cell sh (r.set (.bool true)).cell
        exact ⟨_, by simp [results, Try.results4, go_sem, hc'], rfl, (hB.setCell (p := ⟨w.heap.size + 1 + 1, 0, none⟩) (by show w.heap.size ≤ w.heap.size + 1 + 1; omega) _).trans sh.below⟩
  · obtain ⟨n, rfl⟩ := Int.eq_ofNat_of_zero_le (by omega : 0 ≤ n0)
    obtain ⟨fr, rfl⟩ := Int.eq_ofNat_of_zero_le (by omega : 0 ≤ fr0)
    have hn : n ≤ 200 := by omega
    have h1 : 1 ≤ pid := by omega
    have h8 : pid ≤ 8 := by omega
    have hfr : fr ≤ 800 := by omega
    clear hbad
    have c0 := q0.cell
    have c1 := q1.cell
    go_wp2_with fail
    generalize ((w.alloc (.cells #[.int .i64 n] 3)).alloc (.cells #[.int .i64 fr] 3)).alloc (.cells #[.bool false] 4) = W1 at *
    refine (new_st bx n (clampN_nat (by omega))).mono ?_
    rintro e W2 ⟨rfl, s2, bN⟩
    have s : FW w W2 n fr (W1.heap.size + 2) W1.heap.size (W1.heap.size + 1) n none0 [] := ⟨s2, boxed_below q0 bN, boxed_below q1 bN, boxed_below q2 bN, marks_nil _ _, by omega, by omega⟩
    have c0 := s.b0.cell
    clear s2 bN q0 q1 q2 bx c1
    generalize W1.heap.size + 2 = D at *
    generalize W1.heap.size + 1 = b at *
    generalize W1.heap.size = F at *
    go_wp2_with fail
    have heq := eq_fnF
    go_loopw [39] (fun i wr => ∃ k : Nat, k ≤ n ∧ i = .int .i64 k ∧ FW w wr n fr D F b n (fillF n pid fr k) []) (fun i _ => n - (intOf i).toNat)
    case atStart => exact ⟨0, by omega, rfl, by rw [fillF_zero]; exact s⟩
    case round =>
      clear s c0
      obtain ⟨k, hk, rfl, s⟩ := hrel
      have c0 := s.b0.cell
      have c1 := s.b1.cell
      by_cases hlt : k < n
      · have E := Lib.hid (setF_fill (i := k) h1 h8 hfr hn hlt)
        have hi : ((n : Int) - 1 - (k : Int)) = ((n - 1 - k : Nat) : Int) := by omega
        have hj : ((fr : Int) + (k : Int)) = ((fr + k : Nat) : Int) := by omega
        have HI := Lib.hid hi
        have HJ := Lib.hid hj
        clear hi hj
        go_wp2_with fail
        rw [HI.out, HJ.out]
        refine (set_st s.st _ _ _ E.out).mono ?_
        rintro e w3 ⟨rfl, s3, t3⟩
        have s4 := s.two s3 t3
        clear s s3 t3
        go_wp2_with fail
        go_roundw
        case rel => exact ⟨k + 1, by omega, by go_num, s4⟩
        case measure => simp [intOf]; omega
      · have hkn : k = n := by omega
        rw [hkn] at s ⊢
        clear hkn hlt hk c1
        go_wp2_with fail
        have bA := below_new wr (.cells #[.int .i64 0] 3)
        have sN := Boxed.new wr 3 (.int .i64 0)
        have s3 := s.to bA
        have hN1 : w.heap.size + 3 ≤ wr.heap.size := by have h2 := s.st.tt.ltb.2; have := s.hb; omega
        have hFN : F < wr.heap.size := s.st.tt.ltF.2
        have hbN : b < wr.heap.size := s.st.tt.ltb.2
        have hDN : D < wr.heap.size := s.st.tt.srow.lt
        clear s bA c0
        generalize wr.alloc (.cells #[.int .i64 0] 3) = W3 at *
        refine (of_any (some ⟨D, 0, none⟩) pid W3).mono ?_
        rintro e WB ⟨rfl, rfl⟩
        go_wp2_with fail
        refine (of_any (some ⟨D, 0, none⟩) pid _).mono ?_
        rintro e WC ⟨rfl, rfl⟩
        have hX := (Boxed.new ((W3.alloc (.cells #[.pointer (some ⟨D, 0, none⟩)] 26)).alloc (.cells #[.int .i64 pid] 3)) 26 (.pointer (some ⟨D, 0, none⟩))).alloc (.cells #[.int .i64 pid] 3)
        have hY := Boxed.new (((W3.alloc (.cells #[.pointer (some ⟨D, 0, none⟩)] 26)).alloc (.cells #[.int .i64 pid] 3)).alloc (.cells #[.pointer (some ⟨D, 0, none⟩)] 26)) 3 (.int .i64 pid)
        simp only [World.size_alloc] at hX hY
        have bD := below_alloc (below_alloc (below_alloc (below_new W3 (.cells #[.pointer (some ⟨D, 0, none⟩)] 26)) (.cells #[.int .i64 pid] 3)) (.cells #[.pointer (some ⟨D, 0, none⟩)] 26)) (.cells #[.int .i64 pid] 3)
        have s4 := s3.to bD
        have n4 := boxed_below sN bD
        have hN3 : wr.heap.size < W3.heap.size := sN.lt
        clear sN s3
        go_wp2_with fail
        generalize (((W3.alloc (.cells #[.pointer (some ⟨D, 0, none⟩)] 26)).alloc (.cells #[.int .i64 pid] 3)).alloc (.cells #[.pointer (some ⟨D, 0, none⟩)] 26)).alloc (.cells #[.int .i64 pid] 3) = W4 at *
        have hT := tells_of hp s4.st.tt hX hY
        rw [fill_of (by omega) s4.st.tt.ok, show min (1024 - fr) n = n by omega] at hT
        have hXW := hX.lt
        have hYW := hY.lt
        generalize hXe : W3.heap.size + 1 + 1 = X at *
        generalize hYe : X + 1 = Y at *
        generalize wr.heap.size = N at *
        have hw4 : w.heap.size ≤ W4.heap.size := s4.st.below.size
        have hb4 : b < W4.heap.size := s4.st.tt.ltb.2
        have HT := Lib.hid hT
        clear hT hX hY bD
        refine wp_range2 (α := Nat × Nat) 61 62 10 11 (gf := 21) (lb := #[.pointer (some ⟨X, 0, none⟩), .pointer (some ⟨Y, 0, none⟩)]) rfl (fun _ _ => by kernel_rfl) HT.out
          (fun k hk => by
            have h1 := s4.st.tt.srow.lt
            rcases hk with rfl | rfl | rfl | rfl <;> omega)
          (fun pre W => FW w W n fr D F b n (fillF n pid fr n) [] ∧ Boxed W N 3 (.int .i64 (pre.length : Int)) ∧ pre <+: fillE n fr n)
          (fun c s W => ¬ (s <+: fillE n fr n))
          (fun s W W' h st => ⟨h.1.step st hb4 hw4, boxed_step h.2.1 st, h.2.2⟩) (fun _ _ _ _ h _ => h) ⟨s4, n4, List.nil_prefix⟩ ?assign ?body ?done ?stop
        case assign =>
          intro l x W K hK
          gi_wp2
          exact hK
        case body =>
          rintro l pre x W hl ⟨s, nB, hpre⟩ hlen
          rw [fillE_len] at hlen
          have hy := fillE_at (n := n) (fr := fr) hlen
          have c0 := s.b0.cell
          have c1 := s.b1.cell
          have r0 := s.r.cell
          have r1 := s.r.frozen
          have ck := nB.cell
          have fk := nB.frozen
          obtain ⟨px, kx⟩ := x
          simp only [List.setIfInBounds_toArray, List.set_cons_zero, List.set_cons_succ]
          generalize hpl : pre.length = pl at *
          have HP0 := Lib.hid hpl
          have hnp : ∀ e, (fr + pl, n - 1 - pl) ≠ e → ¬ (pre ++ [e] <+: fillE n fr n) := fun e he => not_prefix (by rw [hpl]; exact hy) he
          have hkeep : ∀ v : Value, Kept (keepT X Y D b) W (W.setCell ⟨N, 0, none⟩ v) := fun v j hj => Below.heap_setCell _ _ _ _ (by rcases hj with rfl | rfl | rfl | rfl <;> simp <;> omega)
          have HKP := Lib.hid hkeep
          have HNP := Lib.hid hnp
          clear hkeep hnp hpl
          by_cases hpx : px = fr + pl
          · have qa : ((px : Int) != (fr : Int) + (pl : Int)) = false := by rw [hpx]; simp
            by_cases hkx : kx = n - 1 - pl
            · have qb : ((kx : Int) != (n : Int) - 1 - (pl : Int)) = false := by rw [bne_eq_false_iff_eq]; omega
              have on := only_set (only_refl W N) 0 (.int .i64 ((pl : Int) + 1))
              have hc := boxed_cells nB
              have hFN' : F < N := hFN
              have hne : D ≠ N ∧ F ≠ N ∧ b ≠ N ∧ w.heap.size ≠ N ∧ w.heap.size + 1 ≠ N ∧ w.heap.size + 2 ≠ N := ⟨by omega, by omega, by omega, by omega, by omega, by omega⟩
              have hI' : FW w (W.setCell ⟨N, 0, none⟩ (.int .i64 ((pl : Int) + 1))) n fr D F b n (fillF n pid fr n) [] :=
                ⟨⟨s.st.tt.of_blocks on.size (Below.heap_setCell _ _ _ _ hne.1) (Below.heap_setCell _ _ _ _ hne.2.1) (Below.heap_setCell _ _ _ _ hne.2.2.1), below_only s.st.below on (by omega), s.st.own⟩,
                  boxed_only s.b0 on hne.2.2.2.1, boxed_only s.b1 on hne.2.2.2.2.1, boxed_only s.r on hne.2.2.2.2.2, marks_nil _ _, s.hF, s.hb⟩
              have hN' : Boxed (W.setCell ⟨N, 0, none⟩ (.int .i64 ((pl : Int) + 1))) N 3 (.int .i64 ((pre ++ [(px, kx)]).length : Int)) := by
                have := nB.set (.int .i64 ((pl : Int) + 1))
                rw [List.length_append, HP0.out]
                simpa using this
              have hP' : (pre ++ [(px, kx)]) <+: fillE n fr n := prefix_snoc hpre (by rw [HP0.out, hpx, hkx]; exact hy)
              have HI' := Lib.hid hI'
              have HN' := Lib.hid hN'
              have HP' := Lib.hid hP'
              clear hI' hN' hP' hpre hy hne s nB hpx hkx on hc
              gi_wp2
              exact ⟨keeps_set _ _ _, HKP.out _, HI'.out, HN'.out, HP'.out⟩
            · have qb : ((kx : Int) != (n : Int) - 1 - (pl : Int)) = true := by rw [bne_iff_ne]; omega
              have HN := Lib.hid (HNP.out (px, kx) (fun e => hkx (congrArg Prod.snd e).symm))
              clear hpre hy s nB hpx hkx
              gi_wp2
              exact ⟨keeps_set _ _ _, HN.out⟩
          · have qa : ((px : Int) != (fr : Int) + (pl : Int)) = true := by rw [bne_iff_ne]; omega
            have HN := Lib.hid (HNP.out (px, kx) (fun e => hpx (congrArg Prod.fst e).symm))
            clear hpre hy s nB hpx
            gi_wp2
            exact ⟨keeps_set _ _ _, HN.out⟩
        case stop =>
          rintro M c pre W hM hpre hx hk
          exact absurd hpre hx
        case done =>
          rintro M W hM ⟨s, nB, -⟩ hk
          rw [fillE_len] at nB
          have c0 := s.b0.cell
          have cN := nB.cell
          have s5 := s.mark (by omega) hk
          have hMlt : M < W.heap.size := (Array.getElem?_eq_some_iff.1 hk).1
          clear HT s4 n4 s nB hk
          have hset : (n = 0 ∧ setF n (fillF n pid fr n) 0 (pid, 1023) = (2, fillF n pid fr n)) ∨ (0 < n ∧ setF n (fillF n pid fr n) 0 (pid, 1023) = (80, fillF n pid fr n)) := by
            rcases Nat.eq_zero_or_pos n with h | h
            · exact .inl ⟨h, by unfold setF badI; simp [h]⟩
            · exact .inr ⟨h, setF_busy (k := 0) (by unfold mayB; simp; omega) h (by unfold fillF; rw [if_pos (by omega)]; simp; omega)⟩
          rcases hset with ⟨hn0, e⟩ | ⟨hn0, e⟩
          case' inl =>
            have d1 : decide ((0 : Int) < (n : Int)) = false := by simp; omega
            have d2 : decide (0 < n) = false := by simp; omega
          case' inr =>
            have d1 : decide ((0 : Int) < (n : Int)) = true := by simp; omega
            have d2 : decide (0 < n) = true := by simp; omega
          all_goals
            have E := Lib.hid e
            clear e hn0
            go_wp2_with fail
            refine (set_st s5.st 0 pid 1023 E.out).mono ?_
            rintro e w6 ⟨rfl, s6, t6⟩
            have s7 := s5.two s6 t6
            have c0 := s7.b0.cell
            clear s5 s6 t6
            go_wp2_with fail
            go_loopw [92] (fun i wr => ∃ k : Nat, k ≤ n ∧ i = .int .i64 k ∧ FW w wr n fr D F b n (cutF (fillF n pid fr n) k) [M]) (fun i _ => n - (intOf i).toNat)
            case atStart => exact ⟨0, by omega, rfl, by rw [cutF_zero]; exact s7⟩
            case round =>
              clear s7 c0 cN
              obtain ⟨k, hk, rfl, s⟩ := hrel
              by_cases hlt : k < n
              · have E := Lib.hid (clearF_fill (fr := fr) (pid := pid) (i := k) (by omega) hlt)
                go_wp2_with fail
                refine (clear_st s.st _ E.out).mono ?_
                rintro e w3 ⟨rfl, s3, t3⟩
                have s4 := s.two s3 t3
                clear s s3 t3
                go_wp2_with fail
                go_roundw
                case rel => exact ⟨k + 1, by omega, by go_num, s4⟩
                case measure => simp [intOf]; omega
              · have hkn : k = n := by omega
                rw [hkn] at s ⊢
                clear hkn hlt hk
                go_wp2_with fail
                refine (of_any (some ⟨D, 0, none⟩) pid _).mono ?_
                rintro e WB ⟨rfl, rfl⟩
                go_wp2_with fail
                refine (of_any (some ⟨D, 0, none⟩) pid _).mono ?_
                rintro e WC ⟨rfl, rfl⟩
                have hX := (Boxed.new ((wr.alloc (.cells #[.pointer (some ⟨D, 0, none⟩)] 26)).alloc (.cells #[.int .i64 pid] 3)) 26 (.pointer (some ⟨D, 0, none⟩))).alloc (.cells #[.int .i64 pid] 3)
                have hY := Boxed.new (((wr.alloc (.cells #[.pointer (some ⟨D, 0, none⟩)] 26)).alloc (.cells #[.int .i64 pid] 3)).alloc (.cells #[.pointer (some ⟨D, 0, none⟩)] 26)) 3 (.int .i64 pid)
                simp only [World.size_alloc] at hX hY
                have bD := below_alloc (below_alloc (below_alloc (below_new wr (.cells #[.pointer (some ⟨D, 0, none⟩)] 26)) (.cells #[.int .i64 pid] 3)) (.cells #[.pointer (some ⟨D, 0, none⟩)] 26)) (.cells #[.int .i64 pid] 3)
                have s4 := s.to bD
                clear s
                go_wp2_with fail
                generalize (((wr.alloc (.cells #[.pointer (some ⟨D, 0, none⟩)] 26)).alloc (.cells #[.int .i64 pid] 3)).alloc (.cells #[.pointer (some ⟨D, 0, none⟩)] 26)).alloc (.cells #[.int .i64 pid] 3) = W5 at *
                have hT := tells_of hp s4.st.tt hX hY
                rw [ofL_cut] at hT
                have hXW := hX.lt
                have hYW := hY.lt
                refine wp_range_nil (α := Nat × Nat) (gf := 21) (lb := #[.pointer (some ⟨wr.heap.size + 1 + 1, 0, none⟩), .pointer (some ⟨wr.heap.size + 1 + 1 + 1, 0, none⟩)]) rfl (fun _ _ => by kernel_rfl) hT
                  (fun k hk => by
                    have h1 := s4.st.tt.srow.lt
                    have h2 := s4.st.tt.ltb.2
                    rcases hk with rfl | rfl | rfl | rfl <;> omega) (fun _ => rfl) ?assign ?done
                case assign =>
                  intro l x W K hK
                  gi_wp2
                  exact hK _
                case done =>
                  rintro M2 W6 hM2 hb6 hk6
                  have s6 := s4.push hb6 hM2 hk6
                  clear s4 hT hX hY bD
                  go_wp2_with fail
                  refine (known_any W6).mono ?_
                  rintro e WF ⟨rfl, bF⟩
                  have s7 := s6.to bF
                  have hc := s7.r.cell
                  have hf := s7.r.frozen
                  clear s6
                  go_wp2_with fail
                  refine leaves_marks (B := w.heap.size) [M2, M] _ ?_ (s7.mks.set _ _) ?_
                  · have := s7.st.below.size; simpa [World.setCell] using this
                  · intro w' sh
                    have hc' := shut_cell sh (s7.r.set (.bool true)).cell
                    exact ⟨_, by simp [results, Try.results4, go_sem, hc'], rfl, (s7.st.below.setCell (p := ⟨w.heap.size + 2, 0, none⟩) (by show w.heap.size ≤ w.heap.size + 2; omega) _).trans sh.below⟩
end Go.Proofs.Ytlnddehknpfliaa
