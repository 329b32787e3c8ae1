/-
  The walk of the law ClockNone.
-/
import Derived.Test.YthgajdaiklfjhaaKnown
namespace Go.Proofs.Ythgajdaiklfjhaa
open Go.RowKit
attribute [local go_sem] Oper.semAt_some

/-- A clock that is not there, or was not made. -/
inductive NoS (w : World) : Option Addr → Prop
  | nil : NoS w none
  | zero (Z : Nat) (h0 : w.cell? ⟨Z, 0, none⟩ = some (.slice none 0 0)) (h1 : w.cell? ⟨Z, 1, none⟩ = some (.map none)) : NoS w (some ⟨Z, 0, none⟩)
theorem NoS.below {w w' : World} {p : Option Addr} (h : NoS w p) (k : Below w.heap.size w w') : NoS w' p := by
  cases h with
  | nil => exact .nil
  | zero Z h0 h1 => exact .zero Z ((k.cell (p := ⟨Z, 0, none⟩) (World.block_lt_of_cell? w _ h0)).trans h0) ((k.cell (p := ⟨Z, 1, none⟩) (World.block_lt_of_cell? w _ h1)).trans h1)
theorem map_eq (W : World) : (binOp .eql 48 (.map none) (.map none)).run Try.prog W = .ok (.bool true) W := by kernel_rfl
section
variable {w : World} {p : Option Addr}
theorem none_none (h : NoS w p) : Calls Try.prog 25 #[.pointer p] w fun e w' => e = .returned (.bool true) ∧ w = w' := by
  have hm := map_eq
  cases h
  all_goals
    go_enter Try.func25, Try.ntmps25
    go_wp2
    go_ret
    exact ⟨rfl, rfl⟩
theorem len_none (h : NoS w p) : Calls Try.prog 15 #[.pointer p] w fun e w' => e = .returned (.int .i64 0) ∧ w = w' := by
  go_enter Try.func15, Try.ntmps15
  go_wp2_with (go_at_call 25; refine (none_none h).mono ?_; rintro e w' ⟨rfl, rfl⟩)
  go_ret
  exact ⟨rfl, rfl⟩
theorem add_none (h : NoS w p) (f : Int) : Calls Try.prog 14 #[.pointer p, .int .i64 f] w fun e w' => e = .returned (.int .i64 1) ∧ w = w' := by
  go_enter Try.func14, Try.ntmps14
  go_wp2_with (go_at_call 25; refine (none_none h).mono ?_; rintro e w' ⟨rfl, rfl⟩)
  go_ret
  exact ⟨rfl, rfl⟩
theorem remove_none (h : NoS w p) (f : Int) : Calls Try.prog 11 #[.pointer p, .int .i64 f] w fun e w' => e = .returned (.int .i64 1) ∧ w = w' := by
  go_enter Try.func11, Try.ntmps11
  go_wp2_with (go_at_call 25; refine (none_none h).mono ?_; rintro e w' ⟨rfl, rfl⟩)
  go_ret
  exact ⟨rfl, rfl⟩
theorem touch_none (h : NoS w p) (f : Int) : Calls Try.prog 12 #[.pointer p, .int .i64 f] w fun e w' => e = .returned (.int .i64 1) ∧ w = w' := by
  go_enter Try.func12, Try.ntmps12
  go_wp2_with (go_at_call 25; refine (none_none h).mono ?_; rintro e w' ⟨rfl, rfl⟩)
  go_ret
  exact ⟨rfl, rfl⟩
theorem has_none (h : NoS w p) (f : Int) : Calls Try.prog 16 #[.pointer p, .int .i64 f] w fun e w' => e = .returned (.bool false) ∧ w = w' := by
  go_enter Try.func16, Try.ntmps16
  go_wp2_with (go_at_call 25; refine (none_none h).mono ?_; rintro e w' ⟨rfl, rfl⟩)
  go_ret
  exact ⟨rfl, rfl⟩
theorem copy_none (h : NoS w p) : Calls Try.prog 19 #[.pointer p] w fun e w' => e = .returned (.pointer none) ∧ w = w' := by
  go_enter Try.func19, Try.ntmps19
  go_wp2_with (go_at_call 25; refine (none_none h).mono ?_; rintro e w' ⟨rfl, rfl⟩)
  go_ret
  exact ⟨rfl, rfl⟩
theorem next_none (h : NoS w p) : Calls Try.prog 13 #[.pointer p] w fun e w' => e = .returned (.tuple #[.int .i64 0, .bool false]) ∧ w = w' := by
  go_enter Try.func13, Try.ntmps13
  go_wp2_with fail
  refine wp_loop_rounds 1 ?_
  rw [rounds_succ]
  go_wp2_with (go_at_call 15; refine (len_none h).mono ?_; rintro e w' ⟨rfl, rfl⟩)
  go_ret2
  exact ⟨rfl, rfl⟩
set_option maxHeartbeats 1000000 in
theorem tells_none {X : Nat} (h : NoS w p) (hX : Boxed w X 25 (.pointer p)) :
    Tells Try.prog 28 #[.pointer (some ⟨X, 0, none⟩)] (fun x : Int => #[.int .i64 x]) (fun _ => False) [] w := by
  intro l J Jx W hW hJ hJx _ h0
  have h' := h.below hW
  have hx := (boxed_below hX hW).cell
  clear h hX
  refine callsIn_of_wp Try.func28 rfl trivial ?_ rfl
  simp only [Try.ntmps28, List.size_toArray, List.length_cons, List.length_nil, Nat.reduceAdd, Nat.reduceSub, Array.replicate_succ, Array.replicate_zero, List.push_toArray, List.append_toArray, List.nil_append, List.cons_append]
  gi_wp2
  refine ⟨trivial, ?_⟩
  refine (callsIn_wide.2 (none_none h')).mono ?_
  rintro e w' ⟨rfl, rfl⟩
  gi_wp2
  refine bodyPost_ret (results_none rfl _ _ _) rfl ?_
  exact ⟨⟨_, rfl⟩, .inl ⟨_, rfl, h0⟩⟩
set_option maxHeartbeats 1000000 in
theorem active_none (h : NoS w p) : Calls Try.prog 18 #[.pointer p] w fun e w' => e = .returned (.int .i64 0) ∧ Below w.heap.size w w' := by
  refine calls_of_wp_marks Try.func18 rfl ?_
  simp only [Try.ntmps18, List.size_toArray, List.length_cons, List.length_nil, Nat.reduceAdd, Nat.reduceSub, Array.replicate_succ, Array.replicate_zero, List.push_toArray, List.append_toArray, List.nil_append, List.cons_append]
  have b1 := below_new w (.cells #[.pointer p] 25)
  have b2 := below_alloc b1 (.cells #[.int .i64 0] 3)
  have c2 := (Boxed.new w 25 (.pointer p)).alloc (.cells #[.int .i64 0] 3)
  have n2 := Boxed.new (w.alloc (.cells #[.pointer p] 25)) 3 (.int .i64 0)
  rw [World.size_alloc] at n2
  have s2 := h.below b2
  have hsz : ((w.alloc (.cells #[.pointer p] 25)).alloc (.cells #[.int .i64 0] 3)).heap.size = w.heap.size + 2 := by simp
  have cc := c2.cell
  clear b1 h
  go_wp2_with fail
  generalize (w.alloc (.cells #[.pointer p] 25)).alloc (.cells #[.int .i64 0] 3) = W2 at *
  refine (all_any p W2).mono ?_
  rintro e W3 ⟨rfl, rfl⟩
  have b3 := below_new W2 (.cells #[.pointer p] 25)
  have s3 := s2.below b3
  have n3 := boxed_below n2 b3
  have hX := Boxed.new W2 25 (.pointer p)
  rw [hsz] at hX
  have b4 := below_then b2 b3
  clear s2 c2 n2 cc
  go_wp2_with fail
  generalize W2.alloc (.cells #[.pointer p] 25) = W3 at *
  refine wp_range_nil (α := Int) (gf := 28) (lb := #[.pointer (some ⟨w.heap.size + 2, 0, none⟩)]) rfl (fun _ _ => by kernel_rfl) (tells_none s3 hX) (fun _ hk => hk.elim) (fun _ => rfl) ?assign ?done
  case assign =>
    intro l x W K hK
    gi_wp2
    exact hK _
  case done =>
    rintro M W hM hb hk
    have n4 := boxed_below n3 hb
    have cn := n4.cell
    have b5 := below_then b4 hb
    have hw := b4.size
    have mk : Marks w.heap.size W [M] := ⟨fun D' h' => by obtain rfl := List.mem_singleton.1 h'; exact ⟨by omega, hk⟩, by simp⟩
    go_wp2_with fail
    refine leaves_marks (B := w.heap.size) [M] _ b5.size mk ?_
    intro w' sh
    exact ⟨_, results_tmp rfl _ _ _, rfl, b5.trans sh.below⟩
end

/-- The worlds of the law: what its variables hold. -/
structure NW (w W : World) (Z L : Nat) (Ds : List Nat) : Prop where
  l0 : W.cell? ⟨L, 0, none⟩ = some (.pointer none)
  l1 : W.cell? ⟨L, 1, none⟩ = some (.pointer (some ⟨Z, 0, none⟩))
  z : NoS W (some ⟨Z, 0, none⟩)
  n : NoS W none
  box : Boxed W w.heap.size 4 (.bool false)
  below : Below w.heap.size w W
  mks : Marks w.heap.size W Ds
theorem NW.to {w W W' : World} {Z L : Nat} {Ds : List Nat} (h : NW w W Z L Ds) (k : Below W.heap.size W W') : NW w W' Z L Ds :=
  ⟨(k.cell (p := ⟨L, 0, none⟩) (World.block_lt_of_cell? W _ h.l0)).trans h.l0, (k.cell (p := ⟨L, 1, none⟩) (World.block_lt_of_cell? W _ h.l1)).trans h.l1, h.z.below k, .nil, boxed_below h.box k, below_then h.below k, h.mks.below k⟩
theorem NW.push {w W W' : World} {Z L D : Nat} {Ds : List Nat} (h : NW w W Z L Ds) (k : Below W.heap.size W W') (hD : W.heap.size ≤ D) (hk : W'.heap[D]? = some (.deferred (some []))) : NW w W' Z L (D :: Ds) :=
  have h' := h.to k
  ⟨h'.l0, h'.l1, h'.z, h'.n, h'.box, h'.below, h.mks.push h.below.size hD hk k⟩
theorem nw_start (w : World) : NW w (((w.alloc (.cells #[.bool false] 4)).alloc (.cells #[.slice none 0 0, .map none] 50)).alloc (.cells #[.pointer none, .pointer (some ⟨w.heap.size + 1, 0, none⟩)] 25)) (w.heap.size + 1) (w.heap.size + 1 + 1) [] where
  l0 := by go_simp
  l1 := by go_simp
  z := .zero _ (by rw [World.cell?_alloc_past _ _ _ (by simp)]; go_simp) (by rw [World.cell?_alloc_past _ _ _ (by simp)]; go_simp)
  n := .nil
  box := ((Boxed.new w 4 _).alloc _).alloc _
  below := below_alloc (below_alloc (below_new _ _) _) _
  mks := marks_nil _ _

theorem eq_fn (a : Fn) (b c : Array Value) (W : World) : Sem.run Try.prog (binOp BinOp.eql 36 (Value.func a b c) Value.nilFunc) W = .ok (.bool false) W := by kernel_rfl
set_option maxRecDepth 100000 in
set_option maxHeartbeats 8000000 in
theorem none_any' (f : Int) (w : World) : Calls Try.prog 8 #[.int .i64 f] w fun e w' => e = .returned (.bool true) ∧ Below w.heap.size w w' := by
  refine calls_of_wp_marks Try.func8 rfl ?_
  simp only [Try.ntmps8, List.size_toArray, List.length_cons, List.length_nil, Nat.reduceAdd, Nat.reduceSub, Array.replicate_succ, Array.replicate_zero, List.push_toArray, List.append_toArray, List.nil_append, List.cons_append]
  go_wp2_with fail
  have s0 := nw_start w
  have heq := eq_fn
  have hL1 : w.heap.size < w.heap.size + 1 + 1 := by omega
  generalize ((w.alloc (.cells #[.bool false] 4)).alloc (.cells #[.slice none 0 0, .map none] 50)).alloc (.cells #[.pointer none, .pointer (some ⟨w.heap.size + 1, 0, none⟩)] 25) = W at *
  generalize w.heap.size + 1 + 1 = L at *
  generalize w.heap.size + 1 = Z at *
  refine wp_loop_rounds 3 ?_
  rw [rounds_succ]
  have l0 := s0.l0
  have l1 := s0.l1
  go_wp2_with fail
  refine (next_none s0.n).mono ?_
  rintro e w' ⟨rfl, rfl⟩
  go_wp2_with fail
  refine (add_none s0.n f).mono ?_
  rintro e w' ⟨rfl, rfl⟩
  go_wp2_with fail
  refine (remove_none s0.n f).mono ?_
  rintro e w' ⟨rfl, rfl⟩
  go_wp2_with fail
  refine (touch_none s0.n f).mono ?_
  rintro e w' ⟨rfl, rfl⟩
  go_wp2_with fail
  refine (len_none s0.n).mono ?_
  rintro e w' ⟨rfl, rfl⟩
  go_wp2_with fail
  refine (active_none s0.n).mono ?_
  rintro e WAa ⟨rfl, bAa⟩
  have sAa := s0.to bAa
  clear s0 bAa
  go_wp2_with fail
  refine (has_none sAa.n f).mono ?_
  rintro e w' ⟨rfl, rfl⟩
  go_wp2_with fail
  refine (copy_none sAa.n).mono ?_
  rintro e w' ⟨rfl, rfl⟩
  go_wp2_with fail
  refine (all_any none _).mono ?_
  rintro e WB ⟨rfl, rfl⟩
  have sBa := sAa.to (below_new _ (.cells #[.pointer none] 25))
  go_wp2_with fail
  refine (all_any none _).mono ?_
  rintro e WC ⟨rfl, rfl⟩
  have sCa := sBa.to (below_new _ (.cells #[.pointer none] 25))
  have hX := Boxed.new (WAa.alloc (.cells #[.pointer none] 25)) 25 (.pointer none)
  simp only [World.size_alloc] at hX
  clear sAa sBa
  go_wp2_with fail
  generalize (WAa.alloc (.cells #[.pointer none] 25)).alloc (.cells #[.pointer none] 25) = WRa at *
  refine wp_range_nil (α := Int) (gf := 28) (lb := #[.pointer (some ⟨WAa.heap.size + 1, 0, none⟩)]) rfl (fun _ _ => by kernel_rfl) (tells_none sCa.n hX) (fun _ hk => hk.elim) (fun _ => rfl) ?assigna ?donea
  case assigna =>
    intro l x W K hK
    gi_wp2
    exact hK _
  case' donea =>
    rintro Da Wa hDa hba hka
    have s1 := sCa.push hba hDa hka
    clear sCa hX
    go_wp2_with fail
    rw [rounds_succ]
    have l0 := s1.l0
    have l1 := s1.l1
    go_wp2_with fail
    refine (next_none s1.z).mono ?_
    rintro e w' ⟨rfl, rfl⟩
    go_wp2_with fail
    refine (add_none s1.z f).mono ?_
    rintro e w' ⟨rfl, rfl⟩
    go_wp2_with fail
    refine (remove_none s1.z f).mono ?_
    rintro e w' ⟨rfl, rfl⟩
    go_wp2_with fail
    refine (touch_none s1.z f).mono ?_
    rintro e w' ⟨rfl, rfl⟩
    go_wp2_with fail
    refine (len_none s1.z).mono ?_
    rintro e w' ⟨rfl, rfl⟩
    go_wp2_with fail
    refine (active_none s1.z).mono ?_
    rintro e WAb ⟨rfl, bAb⟩
    have sAb := s1.to bAb
    clear s1 bAb
    go_wp2_with fail
    refine (has_none sAb.z f).mono ?_
    rintro e w' ⟨rfl, rfl⟩
    go_wp2_with fail
    refine (copy_none sAb.z).mono ?_
    rintro e w' ⟨rfl, rfl⟩
    go_wp2_with fail
    refine (all_any (some ⟨Z, 0, none⟩) _).mono ?_
    rintro e WB ⟨rfl, rfl⟩
    have sBb := sAb.to (below_new _ (.cells #[.pointer (some ⟨Z, 0, none⟩)] 25))
    go_wp2_with fail
    refine (all_any (some ⟨Z, 0, none⟩) _).mono ?_
    rintro e WC ⟨rfl, rfl⟩
    have sCb := sBb.to (below_new _ (.cells #[.pointer (some ⟨Z, 0, none⟩)] 25))
    have hX := Boxed.new (WAb.alloc (.cells #[.pointer (some ⟨Z, 0, none⟩)] 25)) 25 (.pointer (some ⟨Z, 0, none⟩))
    simp only [World.size_alloc] at hX
    clear sAb sBb
    go_wp2_with fail
    generalize (WAb.alloc (.cells #[.pointer (some ⟨Z, 0, none⟩)] 25)).alloc (.cells #[.pointer (some ⟨Z, 0, none⟩)] 25) = WRb at *
    refine wp_range_nil (α := Int) (gf := 28) (lb := #[.pointer (some ⟨WAb.heap.size + 1, 0, none⟩)]) rfl (fun _ _ => by kernel_rfl) (tells_none sCb.z hX) (fun _ hk => hk.elim) (fun _ => rfl) ?assignb ?doneb
    case assignb =>
      intro l x W K hK
      gi_wp2
      exact hK _
    case' doneb =>
      rintro Db Wb hDb hbb hkb
      have s2 := sCb.push hbb hDb hkb
      clear sCb hX
      go_wp2_with fail
      rw [rounds_succ]
      go_wp2_with fail
      refine (known_any Wb).mono ?_
      rintro e WF ⟨rfl, bF⟩
      have s3 := s2.to bF
      have hc := s3.box.cell
      have hf := s3.box.frozen
      clear s2
      go_wp2_with fail
      refine leaves_marks (B := w.heap.size) [Db, Da] _ ?_ (s3.mks.set _ _) ?_
      · have := s3.below.size; simpa [World.setCell] using this
      · intro w' sh
        have hc' := shut_cell sh (s3.box.set (.bool true)).cell
        exact ⟨_, by simp [results, Try.results8, go_sem, hc'], rfl, (s3.below.setCell (p := ⟨w.heap.size, 0, none⟩) (Nat.le_refl _) _).trans sh.below⟩
end Go.Proofs.Ythgajdaiklfjhaa
