/-
  The walk of the law RmapNone.
-/
import Derived.Test.YtlnddehknpfliaaIter
namespace Go.Proofs.Ytlnddehknpfliaa
open Go.RowKit
attribute [local go_sem] Oper.semAt_some

/-- A map that is not there, or was not made. -/
inductive NoS (w : World) : Option Addr → Prop
  | nil : NoS w none
  | zero (Z : Nat) (h0 : w.cell? ⟨Z, 0, none⟩ = some (.slice none 0 0)) (h1 : w.cell? ⟨Z, 1, none⟩ = some (.map none)) : NoS w (some ⟨Z, 0, none⟩)
theorem NoS.below {w w' : World} {p : Option Addr} (h : NoS w p) (k : Below w.heap.size w w') : NoS w' p := by
  cases h with
  | nil => exact .nil
  | zero Z h0 h1 => exact .zero Z ((k.cell (p := ⟨Z, 0, none⟩) (World.block_lt_of_cell? w _ h0)).trans h0) ((k.cell (p := ⟨Z, 1, none⟩) (World.block_lt_of_cell? w _ h1)).trans h1)
theorem look_nil {p : Pg} (hp : kdP p) (W : World) : (Instr.lookup 52 (.map none) (.agg #[.int .i64 p.1, .int .i64 p.2]) true).run Try.prog W = .ok (.tuple #[.int .i64 0, .bool false]) W := by
  obtain ⟨l, hl⟩ := readP p hp
  have hz : (zeroValue 3).run Try.prog W = .ok (.int .i64 0) W := by kernel_rfl
  have hc := KP.keyed.check W false hl
  have hc' := KP.keyed.check W true hl
  have hf : (Instr.findKey 57 (encP p) []).run Try.prog W = .ok none W := by
    rcases KP.keyed.find W hl [] (fun e he => by simp at he) with ⟨f1, _⟩ | ⟨j, e, _, f2, _⟩
    · exact f1
    · simp at f2
  rw [encP] at hc hc' hf
  simp [Instr.lookup, run_underlying Try.underlying52, hc, hc', hf, hz, Result.andThen]
theorem map_eq (W : World) : (binOp .eql 52 (.map none) (.map none)).run Try.prog W = .ok (.bool true) W := by kernel_rfl
section
variable {w : World} {p : Option Addr}
theorem has_none (h : NoS w p) (fr : Int) : Calls Try.prog 20 #[.pointer p, .int .i64 fr] w fun e w' => e = .returned (.int .i64 1) ∧ w = w' := by
  have hm := map_eq
  cases h
  all_goals
    go_enter Try.func20, Try.ntmps20
    go_wp2
    go_ret
    exact ⟨rfl, rfl⟩
theorem set_none (h : NoS w p) (fr pid page : Int) : Calls Try.prog 10 #[.pointer p, .int .i64 fr, .int .i64 pid, .int .i64 page] w fun e w' => e = .returned (.int .i64 1) ∧ Below w.heap.size w w' := by
  go_enter Try.func10, Try.ntmps10
  go_wp2_with (go_at_call 20; refine (has_none h fr).mono ?_; rintro e w' ⟨rfl, rfl⟩)
  go_ret
  exact ⟨rfl, below_new _ _⟩
theorem clear_none (h : NoS w p) (fr : Int) : Calls Try.prog 11 #[.pointer p, .int .i64 fr] w fun e w' => e = .returned (.int .i64 1) ∧ w = w' := by
  go_enter Try.func11, Try.ntmps11
  go_wp2_with (go_at_call 20; refine (has_none h fr).mono ?_; rintro e w' ⟨rfl, rfl⟩)
  go_ret
  exact ⟨rfl, rfl⟩
theorem get_none (h : NoS w p) (fr : Int) : Calls Try.prog 13 #[.pointer p, .int .i64 fr] w fun e w' => e = .returned (.tuple #[.int .i64 0, .int .i64 0, .bool false]) ∧ w = w' := by
  go_enter Try.func13, Try.ntmps13
  go_wp2_with (go_at_call 20; refine (has_none h fr).mono ?_; rintro e w' ⟨rfl, rfl⟩)
  go_ret3
  exact ⟨rfl, rfl⟩
theorem frames_none (h : NoS w p) : Calls Try.prog 12 #[.pointer p] w fun e w' => e = .returned (.int .i64 0) ∧ w = w' := by
  cases h
  all_goals
    go_enter Try.func12, Try.ntmps12
    go_wp2
    go_ret
    exact ⟨rfl, rfl⟩
theorem copy_none (h : NoS w p) : Calls Try.prog 18 #[.pointer p] w fun e w' => e = .returned (.pointer none) ∧ w = w' := by
  have hm := map_eq
  cases h
  all_goals
    go_enter Try.func18, Try.ntmps18
    go_wp2
    go_ret
    exact ⟨rfl, rfl⟩
set_option maxRecDepth 100000 in
set_option maxHeartbeats 2000000 in
theorem tells_none {X Y : Nat} {pid : Int} (hp : (Lit.int .i64 pid).wf = true) (h : NoS w p) (hX : Boxed w X 26 (.pointer p)) (hY : Boxed w Y 3 (.int .i64 pid)) :
    Tells Try.prog 21 #[.pointer (some ⟨X, 0, none⟩), .pointer (some ⟨Y, 0, none⟩)] encT (fun _ => False) [] w := by
  intro l J Jx W hW hJ hJx _ h0
  have h' := h.below hW
  have hx := (boxed_below hX hW).cell
  have hy := (boxed_below hY hW).cell
  clear h hX hY
  refine callsIn_of_wp Try.func21 rfl trivial ?_ rfl
  simp only [Try.ntmps21, List.size_toArray, List.length_cons, List.length_nil, Nat.reduceAdd, Nat.reduceSub, Array.replicate_succ, Array.replicate_zero, List.push_toArray, List.append_toArray, List.nil_append, List.cons_append]
  cases h' with
  | nil =>
    gi_wp2
    refine bodyPost_ret (results_none rfl _ _ _) rfl ?_
    exact ⟨⟨_, rfl⟩, .inl ⟨_, rfl, h0⟩⟩
  | zero Z z0 z1 =>
    gi_wp2
    gi_loopw [9] (fun i wr => ∃ m : Nat, m ≤ 1024 ∧ i = .int .i64 m ∧ ∃ d, wr = W.drewN d) (fun i _ => 1024 - (intOf i).toNat)
    case atStart => exact ⟨0, Nat.zero_le _, rfl, 0, rfl⟩
    case round =>
      obtain ⟨m, hm, rfl, d, rfl⟩ := hrel
      have hJd : J [] (W.drewN d) := hJ _ W (W.drewN d) none h0 ⟨rfl, rfl, rfl, Nat.le_refl _, fun _ _ _ => rfl⟩ (fun r e => by cases e)
      by_cases hlt : m < 1024
      · have hl := look_nil (p := (pid, (m : Int))) ⟨hp, wf64 (by omega) (by omega)⟩
        gi_wp2
        gi_quiet (fail)
        gi_wp2
        refine ⟨fun _ h => (by cases h), ?_⟩
        gi_wp2
        go_roundw
        case rel => exact ⟨m + 1, by omega, by go_num, _, rfl⟩
        case measure => simp [intOf]; omega
      · obtain rfl : m = 1024 := by omega
        gi_wp2
        go_end0
        exact ⟨⟨_, rfl⟩, .inl ⟨_, rfl, hJd⟩⟩
end

/-- The worlds of the law: what its variables hold. -/
structure NW (w W : World) (Z L : Nat) (Ds : List Nat) : Prop where
  l0 : W.cell? ⟨L, 0, none⟩ = some (.pointer none)
  l1 : W.cell? ⟨L, 1, none⟩ = some (.pointer (some ⟨Z, 0, none⟩))
  z : NoS W (some ⟨Z, 0, none⟩)
  n : NoS W none
  box : Boxed W w.heap.size 4 (.bool false)
  below : Below w.heap.size w W
  mks : Marks w.heap.size W Ds
theorem NW.to {w W W' : World} {Z L : Nat} {Ds : List Nat} (h : NW w W Z L Ds) (k : Below W.heap.size W W') : NW w W' Z L Ds :=
  ⟨(k.cell (p := ⟨L, 0, none⟩) (World.block_lt_of_cell? W _ h.l0)).trans h.l0, (k.cell (p := ⟨L, 1, none⟩) (World.block_lt_of_cell? W _ h.l1)).trans h.l1, h.z.below k, .nil, boxed_below h.box k, below_then h.below k, h.mks.below k⟩
theorem NW.push {w W W' : World} {Z L D : Nat} {Ds : List Nat} (h : NW w W Z L Ds) (k : Below W.heap.size W W') (hD : W.heap.size ≤ D) (hk : W'.heap[D]? = some (.deferred (some []))) : NW w W' Z L (D :: Ds) :=
  have h' := h.to k
  ⟨h'.l0, h'.l1, h'.z, h'.n, h'.box, h'.below, h.mks.push h.below.size hD hk k⟩
theorem nw_start (w : World) : NW w (((w.alloc (.cells #[.bool false] 4)).alloc (.cells #[.slice none 0 0, .map none] 54)).alloc (.cells #[.pointer none, .pointer (some ⟨w.heap.size + 1, 0, none⟩)] 26)) (w.heap.size + 1) (w.heap.size + 1 + 1) [] where
  l0 := by go_simp
  l1 := by go_simp
  z := .zero _ (by rw [World.cell?_alloc_past _ _ _ (by simp)]; go_simp) (by rw [World.cell?_alloc_past _ _ _ (by simp)]; go_simp)
  n := .nil
  box := ((Boxed.new w 4 _).alloc _).alloc _
  below := below_alloc (below_alloc (below_new _ _) _) _
  mks := marks_nil _ _

theorem eq_fn (a : Fn) (b c : Array Value) (W : World) : Sem.run Try.prog (binOp BinOp.eql 36 (Value.func a b c) Value.nilFunc) W = .ok (.bool false) W := by kernel_rfl
set_option maxRecDepth 100000 in
set_option maxHeartbeats 8000000 in
theorem none_any (fr pid page : Int) (hp : (Lit.int .i64 pid).wf = true) (w : World) : Calls Try.prog 7 #[.int .i64 fr, .int .i64 pid, .int .i64 page] w fun e w' => e = .returned (.bool true) ∧ Below w.heap.size w w' := by
  refine calls_of_wp_marks Try.func7 rfl ?_
  simp only [Try.ntmps7, List.size_toArray, List.length_cons, List.length_nil, Nat.reduceAdd, Nat.reduceSub, Array.replicate_succ, Array.replicate_zero, List.push_toArray, List.append_toArray, List.nil_append, List.cons_append]
  go_wp2_with fail
  have s0 := nw_start w
  have heq := eq_fn
  have hL1 : w.heap.size < w.heap.size + 1 + 1 := by omega
  generalize ((w.alloc (.cells #[.bool false] 4)).alloc (.cells #[.slice none 0 0, .map none] 54)).alloc (.cells #[.pointer none, .pointer (some ⟨w.heap.size + 1, 0, none⟩)] 26) = W at *
  generalize w.heap.size + 1 + 1 = L at *
  generalize w.heap.size + 1 = Z at *
  refine wp_loop_rounds 3 ?_
  rw [rounds_succ]
  have l0 := s0.l0
  have l1 := s0.l1

  go_wp2_with fail
  refine (get_none s0.n fr).mono ?_
  rintro e w' ⟨rfl, rfl⟩
  go_wp2_with fail
  refine (set_none s0.n fr pid page).mono ?_
  rintro e WSa ⟨rfl, bSa⟩
  have sSa := s0.to bSa
  clear s0 bSa
  go_wp2_with fail
  refine (clear_none sSa.n fr).mono ?_
  rintro e w' ⟨rfl, rfl⟩
  go_wp2_with fail
  refine (frames_none sSa.n).mono ?_
  rintro e w' ⟨rfl, rfl⟩
  go_wp2_with fail
  refine (copy_none sSa.n).mono ?_
  rintro e w' ⟨rfl, rfl⟩
  go_wp2_with fail
  refine (of_any none pid _).mono ?_
  rintro e WB ⟨rfl, rfl⟩
  have sBa := sSa.to (below_alloc (below_new _ (.cells #[.pointer none] 26)) (.cells #[.int .i64 pid] 3))
  go_wp2_with fail
  refine (of_any none pid _).mono ?_
  rintro e WC ⟨rfl, rfl⟩
  have sCa := sBa.to (below_alloc (below_new _ (.cells #[.pointer none] 26)) (.cells #[.int .i64 pid] 3))
  have hX := Boxed.new ((WSa.alloc (.cells #[.pointer none] 26)).alloc (.cells #[.int .i64 pid] 3)) 26 (.pointer none)
  have hX := hX.alloc (.cells #[.int .i64 pid] 3)
  have hY := Boxed.new (((WSa.alloc (.cells #[.pointer none] 26)).alloc (.cells #[.int .i64 pid] 3)).alloc (.cells #[.pointer none] 26)) 3 (.int .i64 pid)
  simp only [World.size_alloc] at hX hY
  clear sSa sBa
  go_wp2_with fail
  generalize (((WSa.alloc (.cells #[.pointer none] 26)).alloc (.cells #[.int .i64 pid] 3)).alloc (.cells #[.pointer none] 26)).alloc (.cells #[.int .i64 pid] 3) = WRa at *
  refine wp_range_nil (α := Nat × Nat) (gf := 21) (lb := #[.pointer (some ⟨WSa.heap.size + 1 + 1, 0, none⟩), .pointer (some ⟨WSa.heap.size + 1 + 1 + 1, 0, none⟩)]) rfl (fun _ _ => by kernel_rfl) (tells_none hp sCa.n hX hY) (fun _ hka => hka.elim) (fun _ => rfl) ?assign1 ?done1
  case assign1 =>
    intro l x W K hK
    gi_wp2
    exact hK _
  case' done1 =>
    rintro Da Wa hDa hba hka
    have s1 := sCa.push hba hDa hka
    clear sCa hX hY
    go_wp2_with fail

    rw [rounds_succ]
    have l0 := s1.l0
    have l1 := s1.l1

    go_wp2_with fail
    refine (get_none s1.z fr).mono ?_
    rintro e w' ⟨rfl, rfl⟩
    go_wp2_with fail
    refine (set_none s1.z fr pid page).mono ?_
    rintro e WSb ⟨rfl, bSb⟩
    have sSb := s1.to bSb
    clear s1 bSb
    go_wp2_with fail
    refine (clear_none sSb.z fr).mono ?_
    rintro e w' ⟨rfl, rfl⟩
    go_wp2_with fail
    refine (frames_none sSb.z).mono ?_
    rintro e w' ⟨rfl, rfl⟩
    go_wp2_with fail
    refine (copy_none sSb.z).mono ?_
    rintro e w' ⟨rfl, rfl⟩
    go_wp2_with fail
    refine (of_any (some ⟨Z, 0, none⟩) pid _).mono ?_
    rintro e WB ⟨rfl, rfl⟩
    have sBb := sSb.to (below_alloc (below_new _ (.cells #[.pointer (some ⟨Z, 0, none⟩)] 26)) (.cells #[.int .i64 pid] 3))
    go_wp2_with fail
    refine (of_any (some ⟨Z, 0, none⟩) pid _).mono ?_
    rintro e WC ⟨rfl, rfl⟩
    have sCb := sBb.to (below_alloc (below_new _ (.cells #[.pointer (some ⟨Z, 0, none⟩)] 26)) (.cells #[.int .i64 pid] 3))
    have hX := Boxed.new ((WSb.alloc (.cells #[.pointer (some ⟨Z, 0, none⟩)] 26)).alloc (.cells #[.int .i64 pid] 3)) 26 (.pointer (some ⟨Z, 0, none⟩))
    have hX := hX.alloc (.cells #[.int .i64 pid] 3)
    have hY := Boxed.new (((WSb.alloc (.cells #[.pointer (some ⟨Z, 0, none⟩)] 26)).alloc (.cells #[.int .i64 pid] 3)).alloc (.cells #[.pointer (some ⟨Z, 0, none⟩)] 26)) 3 (.int .i64 pid)
    simp only [World.size_alloc] at hX hY
    clear sSb sBb
    go_wp2_with fail
    generalize (((WSb.alloc (.cells #[.pointer (some ⟨Z, 0, none⟩)] 26)).alloc (.cells #[.int .i64 pid] 3)).alloc (.cells #[.pointer (some ⟨Z, 0, none⟩)] 26)).alloc (.cells #[.int .i64 pid] 3) = WRb at *
    refine wp_range_nil (α := Nat × Nat) (gf := 21) (lb := #[.pointer (some ⟨WSb.heap.size + 1 + 1, 0, none⟩), .pointer (some ⟨WSb.heap.size + 1 + 1 + 1, 0, none⟩)]) rfl (fun _ _ => by kernel_rfl) (tells_none hp sCb.z hX hY) (fun _ hkb => hkb.elim) (fun _ => rfl) ?assign2 ?done2
    case assign2 =>
      intro l x W K hK
      gi_wp2
      exact hK _
    case' done2 =>
      rintro Db Wb hDb hbb hkb
      have s2 := sCb.push hbb hDb hkb
      clear sCb hX hY
      go_wp2_with fail

      rw [rounds_succ]
      go_wp2_with fail
      refine (known_any Wb).mono ?_
      rintro e WF ⟨rfl, bF⟩
      have s3 := s2.to bF
      have hc := s3.box.cell
      have hf := s3.box.frozen
      clear s2
      go_wp2_with fail
      refine leaves_marks (B := w.heap.size) [Db, Da] _ ?_ (s3.mks.set _ _) ?_
      · have := s3.below.size; simpa [World.setCell] using this
      · intro w' sh
        have hc' := shut_cell sh (s3.box.set (.bool true)).cell
        exact ⟨_, by simp [results, Try.results7, go_sem, hc'], rfl, (s3.below.setCell (p := ⟨w.heap.size, 0, none⟩) (Nat.le_refl _) _).trans sh.below⟩
end Go.Proofs.Ytlnddehknpfliaa
