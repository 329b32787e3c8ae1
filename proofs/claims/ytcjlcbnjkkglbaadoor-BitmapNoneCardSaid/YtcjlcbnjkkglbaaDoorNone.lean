/-
  The walk of the law BitmapNone: a set that is not there, and a zero one.
-/
import Derived.Test.YtcjlcbnjkkglbaaDoorIter
namespace Go.Proofs.YtcjlcbnjkkglbaaDoor
open Go.RowKit
attribute [local go_sem] Oper.semAt_some
theorem seek_nil (F : Nat) (m : Int) (w : World) : Calls Tryd.prog 26 #[.pointer none, .int .i64 m, .func (.func F) #[] #[]] w fun e w' => e = .returned (toldO none) ∧ w = w' := by
  by_cases hneg : m < 0
  · go_enter Tryd.func26, Tryd.ntmps26
    go_wp2_with fail
    refine wp_loop_rounds 1 ?_
    rw [rounds_succ]
    go_wp2_with fail
    go_ret2
    exact ⟨rfl, rfl⟩
  · have h0 : 0 ≤ m := by omega
    go_enter Tryd.func26, Tryd.ntmps26
    go_wp2_with fail
    refine wp_loop_rounds 1 ?_
    rw [rounds_succ]
    go_wp2_with fail
    go_ret2
    exact ⟨rfl, rfl⟩
theorem free_nil (m : Int) (w : World) : Calls Tryd.prog 15 #[.pointer none, .int .i64 m] w fun e w' => e = .returned (toldO none) ∧ w = w' := by
  go_enter Tryd.func15, Tryd.ntmps15
  go_wp2_with fail
  refine (seek_nil 28 m w).mono ?_
  rintro e w' ⟨rfl, rfl⟩
  unfold toldO
  go_wp2_with fail
  go_ret2
  exact ⟨rfl, rfl⟩
theorem next_nil (m : Int) (w : World) : Calls Tryd.prog 12 #[.pointer none, .int .i64 m] w fun e w' => e = .returned (toldO none) ∧ w = w' := by
  go_enter Tryd.func12, Tryd.ntmps12
  go_wp2_with fail
  refine (seek_nil 27 m w).mono ?_
  rintro e w' ⟨rfl, rfl⟩
  unfold toldO
  go_wp2_with fail
  go_ret2
  exact ⟨rfl, rfl⟩
theorem size_nil (w : World) : Calls Tryd.prog 11 #[.pointer none] w fun e w' => e = .returned (.int .i64 0) ∧ w = w' := by
  go_enter Tryd.func11, Tryd.ntmps11
  go_wp2
  go_ret
  exact ⟨rfl, rfl⟩
theorem run_nil (m many : Int) (w : World) : Calls Tryd.prog 10 #[.pointer none, .int .i64 m, .int .i64 many] w fun e w' => e = .returned (toldO none) ∧ w = w' := by
  by_cases h1 : many < 1
  · have d1 : decide (many < 1) = true := by simp; omega
    go_enter Tryd.func10, Tryd.ntmps10
    go_wp2_with fail
    go_ret2
    exact ⟨rfl, rfl⟩
  · have d1 : decide (many < 1) = false := by simp; omega
    have d2 : decide (0 < many) = true := by simp; omega
    go_enter Tryd.func10, Tryd.ntmps10
    go_wp2_with (go_at_call 11; refine (size_nil w).mono ?_; rintro e w' ⟨rfl, rfl⟩)
    go_ret2
    exact ⟨rfl, rfl⟩
theorem own_nil (i : Int) (w : World) : Calls Tryd.prog 25 #[.pointer none, .int .i64 i] w fun e w' => e = .returned (.bool false) ∧ w = w' := by
  go_enter Tryd.func25, Tryd.ntmps25
  go_wp2
  go_ret
  exact ⟨rfl, rfl⟩
theorem has_nil (i : Int) (w : World) : Calls Tryd.prog 13 #[.pointer none, .int .i64 i] w fun e w' => e = .returned (.bool false) ∧ w = w' := by
  go_enter Tryd.func13, Tryd.ntmps13
  go_wp2_with (go_at_call 25; refine (own_nil i w).mono ?_; rintro e w' ⟨rfl, rfl⟩)
  go_ret
  exact ⟨rfl, rfl⟩
theorem put_nil (i : Int) (w : World) : Calls Tryd.prog 9 #[.pointer none, .int .i64 i] w fun e w' => e = .returned (.int .i64 1) ∧ w = w' := by
  go_enter Tryd.func9, Tryd.ntmps9
  go_wp2
  go_ret
  exact ⟨rfl, rfl⟩
theorem take_nil (i : Int) (w : World) : Calls Tryd.prog 14 #[.pointer none, .int .i64 i] w fun e w' => e = .returned (.int .i64 1) ∧ w = w' := by
  go_enter Tryd.func14, Tryd.ntmps14
  go_wp2
  go_ret
  exact ⟨rfl, rfl⟩
theorem copy_nil (w : World) : Calls Tryd.prog 20 #[.pointer none] w fun e w' => e = .returned (.pointer none) ∧ w = w' := by
  go_enter Tryd.func20, Tryd.ntmps20
  go_wp2
  go_ret
  exact ⟨rfl, rfl⟩
theorem len_nil (w : World) : Calls Tryd.prog 24 #[.pointer none] w fun e w' => e = .returned (.int .i64 0) ∧ w = w' := by
  go_enter Tryd.func24, Tryd.ntmps24
  go_wp2
  go_ret
  exact ⟨rfl, rfl⟩
section
variable {w w' : World} {base D b c N : Nat} {Wd : Nat → Nat}
theorem len_zero (s : BS w base D none c b 0 Wd) : Calls Tryd.prog 24 #[.pointer (some ⟨D, 0, none⟩)] w fun e w' => e = .returned (.int .i64 0) ∧ w = w' := by
  have s0 := s.s0
  rw [show wordsOf 0 = 0 from rfl] at s0
  clear s
  go_enter Tryd.func24, Tryd.ntmps24
  go_wp2_with fail
  refine wp_loop_rounds 1 ?_
  rw [rounds_succ]
  go_wp2_with fail
  go_ret
  exact ⟨rfl, rfl⟩
/-- One that is not there tells nothing. -/
theorem tells_nil {X : Nat} (hX : Boxed w X 24 (.pointer none)) {B : Nat} {Mod : Nat → Prop} :
    TellsS Tryd.prog 31 #[.pointer (some ⟨X, 0, none⟩)] (fun x : Nat => #[.int .i64 (x : Int)]) (SafeB B Mod) [] w := by
  intro l J Jx W hW hJ hJx hYd h0
  have hx := (boxed_below hX hW).cell
  have HJ0 := Lib.hid h0
  clear hX hYd h0
  refine callsIn_of_wp Tryd.func31 rfl trivial ?_ rfl
  simp only [Tryd.ntmps31, List.size_toArray, List.length_cons, List.length_nil, Nat.reduceAdd, Nat.reduceSub, Array.replicate_succ, Array.replicate_zero, List.push_toArray, List.append_toArray, List.nil_append, List.cons_append]
  gi_wp2
  refine ⟨trivial, ?_⟩
  refine (callsIn_wide.2 (copy_nil W)).mono ?_
  rintro e W1 ⟨rfl, rfl⟩
  gi_wp2
  refine ⟨trivial, ?_⟩
  refine (callsIn_wide.2 (next_nil 0 W)).mono ?_
  rintro e W2 ⟨rfl, rfl⟩
  unfold toldO
  gi_wp2
  refine wpIn_loop_rounds 1 ?_
  rw [roundsIn_succ]
  gi_wp2
  refine ⟨fun _ h => (by cases h), ?_⟩
  gi_wp2
  go_end0
  exact ⟨⟨_, rfl⟩, .inl ⟨_, rfl, HJ0.out⟩⟩
end
/-- The worlds of the law: its result's box, the zero set. -/
structure NZ (w W : World) (Ds : List Nat) : Prop where
  z : BS W w.heap.size (w.heap.size + 1) none 0 (w.heap.size + 1) 0 k0
  box : Boxed W w.heap.size 4 (.bool false)
  below : Below w.heap.size w W
  mks : Marks w.heap.size W Ds
  tab : TabW W
  pos : 0 < w.heap.size
section
variable {w W W' : World} {Ds : List Nat}
theorem NZ.to (s : NZ w W Ds) (k : Below W.heap.size W W') : NZ w W' Ds :=
  ⟨s.z.below k, boxed_below s.box k, below_then s.below k, s.mks.below k, s.tab.below k (by have := s.pos; have := s.below.size; omega), s.pos⟩
theorem NZ.push (s : NZ w W Ds) (k : Below W.heap.size W W') {D : Nat} (hD : W.heap.size ≤ D) (hk : W'.heap[D]? = some (.deferred (some []))) : NZ w W' (D :: Ds) :=
  ⟨s.z.below k, boxed_below s.box k, below_then s.below k, s.mks.push s.below.size hD hk k, s.tab.below k (by have := s.pos; have := s.below.size; omega), s.pos⟩
theorem NZ.only (s : NZ w W Ds) (z : BS W' w.heap.size (w.heap.size + 1) none 0 (w.heap.size + 1) 0 k0) (k : Only W W' (w.heap.size + 1)) : NZ w W' Ds :=
  ⟨z, boxed_only s.box k (by omega), below_only s.below k (by omega), s.mks.only k (rowIs_cells s.z.srow), s.tab.only k (by omega) (by have := s.z.srow.lt; omega), s.pos⟩
theorem NZ.ahead (s : NZ w W Ds) : Ahead W w.heap.size (fun _ => False) := ⟨fun k hk => hk.elim, s.box.lt, fun d o n c hd => by rw [s.box.cell] at hd; cases hd⟩
theorem NZ.safe0 (s : NZ w W Ds) : SafeB w.heap.size (fun _ => False) W 0 := by
  refine ⟨?_, id, fun d o n c hd => by rw [s.box.cell] at hd; cases hd⟩
  have := s.tab 0 (by decide)
  unfold World.cell? at this
  cases hh : W.heap[0]? with
  | none => simp [hh] at this
  | some o =>
    cases o with
    | cells c t f => exact ⟨c, t, f, rfl⟩
    | _ => simp [hh] at this
theorem nz_start (w : World) (h0 : 0 < w.heap.size) (hT : TabW w) : NZ w ((w.alloc (.cells #[.bool false] 4)).alloc (.cells #[.slice none 0 0, .int .i64 0] 46)) [] := by
  have b2 : Below w.heap.size w ((w.alloc (.cells #[.bool false] 4)).alloc (.cells #[.slice none 0 0, .int .i64 0] 46)) := below_alloc (below_new _ _) _
  have h := World.rowIs_alloc (w.alloc (.cells #[.bool false] 4)) #[.slice none 0 0, .int .i64 0] 46 (setF none (wordsOf 0) 0 0) (fun i hi => by
    rcases (show i = 0 ∨ i = 1 by simp at hi; omega) with rfl | rfl <;> rfl)
  rw [World.size_alloc] at h
  exact ⟨⟨h, ⟨World.ownsRow_nil _ _ _ _, fun h => absurd h (Nat.lt_irrefl _), fun b hb => by cases hb⟩, by omega, fun _ => by show 0 < _; decide⟩, (Boxed.new w 4 _).alloc _, b2, marks_nil _ _, hT.below b2 h0, h0⟩
end
theorem eq_fn (a : Fn) (b c : Array Value) (W : World) : Sem.run Tryd.prog (binOp BinOp.eql 48 (Value.func a b c) Value.nilFunc) W = .ok (.bool false) W := by kernel_rfl
theorem ownB_zero (i : Int) : ownB 0 i = false := by unfold ownB; rw [decide_eq_false]; omega
theorem putE_zero (i : Int) : putE 0 k0 i = 2 := by unfold putE; rw [ownB_zero]; rfl
theorem takeE_zero (i : Int) : takeE 0 k0 i = 2 := by unfold takeE; rw [ownB_zero]; rfl
theorem run_zero {m many : Int} {r : Option Nat} (h : RunI (bitW k0) m many 0 r) : r = none := by
  by_cases h1 : many < 1
  · exact h.no h1
  · cases r with
    | none => rfl
    | some z => have := (h.run (by omega)).some z rfl; omega
set_option maxRecDepth 100000 in
set_option maxHeartbeats 8000000 in
theorem none_any (i n : Int) (hi : i ≤ 9223372036854775807) (w : World) (h0 : 0 < w.heap.size) (hT : TabW w) : Calls Tryd.prog 6 #[.int .i64 i, .int .i64 n] w fun e w' => e = .returned (.bool true) ∧ Below w.heap.size w w' := by
  refine calls_of_wp_marks Tryd.func6 rfl ?_
  simp only [Tryd.ntmps6, List.size_toArray, List.length_cons, List.length_nil, Nat.reduceAdd, Nat.reduceSub, Array.replicate_succ, Array.replicate_zero, List.push_toArray, List.append_toArray, List.nil_append, List.cons_append]
  have s0 := nz_start w h0 hT
  have heq := eq_fn
  go_wp2_with fail
  generalize (w.alloc (.cells #[.bool false] 4)).alloc (.cells #[.slice none 0 0, .int .i64 0] 46) = W at *
  refine (free_nil i W).mono ?_
  rintro e w' ⟨rfl, rfl⟩
  unfold toldO
  go_wp2_with fail
  refine (next_nil i W).mono ?_
  rintro e w' ⟨rfl, rfl⟩
  unfold toldO
  go_wp2_with fail
  refine (run_nil i n W).mono ?_
  rintro e w' ⟨rfl, rfl⟩
  unfold toldO
  go_wp2_with fail
  refine (run_any s0.z s0.tab i n hi).mono ?_
  rintro e w' ⟨r, hr, rfl, rfl⟩
  rw [run_zero hr]
  unfold toldO
  clear hr
  go_wp2_with fail
  refine (all_any none W).mono ?_
  rintro e WB ⟨rfl, rfl⟩
  have s1 := s0.to (below_new _ (.cells #[.pointer none] 24))
  clear s0
  go_wp2_with fail
  generalize W.alloc (.cells #[.pointer none] 24) = W1 at *
  refine (all_any none W1).mono ?_
  rintro e WB ⟨rfl, rfl⟩
  have s2 := s1.to (below_new _ (.cells #[.pointer none] 24))
  have hX := Boxed.new W1 24 (.pointer none)
  clear s1
  go_wp2_with fail
  generalize hXe : W1.heap.size = X1 at *
  generalize W1.alloc (.cells #[.pointer none] 24) = W2 at *
  clear hXe
  refine wp_rangeS_nil (α := Nat) (gf := 31) (lb := #[.pointer (some ⟨X1, 0, none⟩)]) rfl (fun _ _ => by kernel_rfl) (tells_nil hX) s2.ahead (fun _ => rfl) ?assigna ?donea
  case assigna =>
    intro l x W K hK
    gi_wp2
    exact hK _
  case' donea =>
    rintro Da Wa hDa hba hka
    have s3 := s2.push hba hDa hka
    clear s2 hX hba
    go_wp2_with fail
    refine (all_any (some ⟨w.heap.size + 1, 0, none⟩) Wa).mono ?_
    rintro e WB ⟨rfl, rfl⟩
    have s4 := s3.to (below_new _ (.cells #[.pointer (some ⟨w.heap.size + 1, 0, none⟩)] 24))
    clear s3
    go_wp2_with fail
    generalize Wa.alloc (.cells #[.pointer (some ⟨w.heap.size + 1, 0, none⟩)] 24) = W4 at *
    refine (all_any (some ⟨w.heap.size + 1, 0, none⟩) W4).mono ?_
    rintro e WB ⟨rfl, rfl⟩
    have s5 := s4.to (below_new _ (.cells #[.pointer (some ⟨w.heap.size + 1, 0, none⟩)] 24))
    have hX := Boxed.new W4 24 (.pointer (some ⟨w.heap.size + 1, 0, none⟩))
    clear s4
    go_wp2_with fail
    generalize hXe : W4.heap.size = X2 at *
    generalize W4.alloc (.cells #[.pointer (some ⟨w.heap.size + 1, 0, none⟩)] 24) = W5 at *
    clear hXe
    refine wp_rangeS_nil (α := Nat) (gf := 31) (lb := #[.pointer (some ⟨X2, 0, none⟩)]) rfl (fun _ _ => by kernel_rfl) (tells_all s5.z s5.tab hX s5.ahead s5.safe0) s5.ahead (fun _ => rfl) ?assignb ?doneb
    case assignb =>
      intro l x W K hK
      gi_wp2
      exact hK _
    case' doneb =>
      rintro Db Wb hDb hbb hkb
      have s6 := s5.push hbb hDb hkb
      clear s5 hX hbb
      have hpz := putE_zero i
      have htz := takeE_zero i
      have HPZ := Lib.hid hpz
      have HTZ := Lib.hid htz
      clear hpz htz
      go_wp2_with fail
      refine (put_nil i Wb).mono ?_
      rintro e w' ⟨rfl, rfl⟩
      go_wp2_with fail
      refine (take_nil i Wb).mono ?_
      rintro e w' ⟨rfl, rfl⟩
      go_wp2_with fail
      refine (put_any s6.z i).mono ?_
      rintro e W7 ⟨rfl, z7, o7⟩
      rw [HPZ.out] at z7 ⊢
      have s7 := s6.only z7 o7
      clear z7 o7 s6
      go_wp2_with fail
      refine (take_any s7.z i).mono ?_
      rintro e W8 ⟨rfl, z8, o8⟩
      rw [HTZ.out] at z8 ⊢
      have s8 := s7.only z8 o8
      clear z8 o8 s7
      go_wp2_with fail
      refine (size_nil W8).mono ?_
      rintro e w' ⟨rfl, rfl⟩
      go_wp2_with fail
      refine (len_nil W8).mono ?_
      rintro e w' ⟨rfl, rfl⟩
      go_wp2_with fail
      refine (size_any s8.z).mono ?_
      rintro e w' ⟨rfl, rfl⟩
      go_wp2_with fail
      refine (len_zero s8.z).mono ?_
      rintro e w' ⟨rfl, rfl⟩
      go_wp2_with fail
      refine (has_nil i W8).mono ?_
      rintro e w' ⟨rfl, rfl⟩
      go_wp2_with fail
      refine (copy_nil W8).mono ?_
      rintro e w' ⟨rfl, rfl⟩
      have h08 : 0 < W8.heap.size := by have := s8.pos; have := s8.below.size; omega
      have hT8 := s8.tab
      go_wp2_with fail
      refine (known_any W8 h08 hT8).mono ?_
      rintro e WF ⟨rfl, bF⟩
      have s9 := s8.to bF
      have hc := s9.box.cell
      have hf := s9.box.frozen
      clear s8
      go_wp2_with fail
      refine leaves_marks (B := w.heap.size) [Db, Da] _ ?_ (s9.mks.set _ _) ?_
      · have := s9.below.size; simpa [World.setCell] using this
      · intro w' sh
        have hc' := shut_cell sh (s9.box.set (.bool true)).cell
        exact ⟨_, by simp [results, Tryd.results6, go_sem, hc'], rfl, (s9.below.setCell (p := ⟨w.heap.size, 0, none⟩) (Nat.le_refl _) _).trans sh.below⟩
end Go.Proofs.YtcjlcbnjkkglbaaDoor
