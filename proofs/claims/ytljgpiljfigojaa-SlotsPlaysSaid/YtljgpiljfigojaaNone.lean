/-
  The walk of the law SlotsNone.
-/
import Derived.Test.YtljgpiljfigojaaKnown
import Derived.Test.YtljgpiljfigojaaRF2
namespace Go.Proofs.Ytljgpiljfigojaa
open Go.RowKit
attribute [local go_sem] Oper.semAt_some

/-- Slots that are not there, or were not made. -/
inductive NoS (w : World) : Option Addr → Prop
  | nil : NoS w none
  | zero (Z : Nat) (h0 : w.cell? ⟨Z, 0, none⟩ = some (.slice none 0 0)) (h1 : w.cell? ⟨Z, 1, none⟩ = some (.bool false)) : NoS w (some ⟨Z, 0, none⟩)
theorem NoS.below {w w' : World} {p : Option Addr} (h : NoS w p) (k : Below w.heap.size w w') : NoS w' p := by
  cases h with
  | nil => exact .nil
  | zero Z h0 h1 => exact .zero Z ((k.cell (p := ⟨Z, 0, none⟩) (World.block_lt_of_cell? w _ h0)).trans h0) ((k.cell (p := ⟨Z, 1, none⟩) (World.block_lt_of_cell? w _ h1)).trans h1)
section
variable {w : World} {p : Option Addr}
theorem take_none (h : NoS w p) (pid page : Int) : Calls Try.prog 10 #[.pointer p, .int .i64 pid, .int .i64 page] w fun e w' => e = .returned (.tuple #[.int .i64 0, .int .i64 1]) ∧ w = w' := by
  cases h
  all_goals
    go_enter Try.func10, Try.ntmps10
    go_wp2
    go_ret2
    exact ⟨rfl, rfl⟩
theorem free_none (h : NoS w p) (slot : Int) : Calls Try.prog 12 #[.pointer p, .int .i64 slot] w fun e w' => e = .returned (.int .i64 1) ∧ w = w' := by
  cases h
  all_goals
    go_enter Try.func12, Try.ntmps12
    go_wp2
    go_ret
    exact ⟨rfl, rfl⟩
theorem len_none (h : NoS w p) : Calls Try.prog 13 #[.pointer p] w fun e w' => e = .returned (.int .i64 0) ∧ w = w' := by
  cases h
  all_goals
    go_enter Try.func13, Try.ntmps13
    go_wp2
    go_ret
    exact ⟨rfl, rfl⟩
theorem owner_none (h : NoS w p) (slot : Int) : Calls Try.prog 14 #[.pointer p, .int .i64 slot] w fun e w' => e = .returned (.tuple #[.int .i64 0, .int .i64 0, .bool false]) ∧ w = w' := by
  by_cases hs : slot < 0
  · go_enter Try.func14, Try.ntmps14
    go_wp2_with (go_at_call 13; refine (len_none h).mono ?_; rintro e w' ⟨rfl, rfl⟩)
    go_ret3
    exact ⟨rfl, rfl⟩
  · have hs' : 0 ≤ slot := by omega
    go_enter Try.func14, Try.ntmps14
    go_wp2_with (go_at_call 13; refine (len_none h).mono ?_; rintro e w' ⟨rfl, rfl⟩)
    go_ret3
    exact ⟨rfl, rfl⟩
theorem copy_none (h : NoS w p) : Calls Try.prog 18 #[.pointer p] w fun e w' => e = .returned (.pointer none) ∧ w = w' := by
  cases h
  all_goals
    go_enter Try.func18, Try.ntmps18
    go_wp2
    go_ret
    exact ⟨rfl, rfl⟩
theorem all_ptr (p : Option Addr) (w : World) : Calls Try.prog 20 #[.pointer p] w fun e w' =>
    e = .returned (.func (.func 24) #[] #[.pointer (some ⟨w.heap.size, 0, none⟩)]) ∧ w' = w.alloc (.cells #[.pointer p] 23) := by
  go_enter Try.func20, Try.ntmps20
  go_wp2
  go_ret
  exact ⟨rfl, rfl⟩
set_option maxRecDepth 100000 in
set_option maxHeartbeats 2000000 in
theorem tells_none {X : Nat} (h : NoS w p) (hX : Boxed w X 23 (.pointer p)) :
    Tells Try.prog 24 #[.pointer (some ⟨X, 0, none⟩)] (fun k : Nat => #[Value.int .i64 (k : Int)]) (fun _ => False) [] w := by
  intro l J Jx W hW hJ hJx hY h0
  have h' := h.below hW
  have hx := (boxed_below hX hW).cell
  refine callsIn_of_wp Try.func24 rfl trivial ?_ rfl
  simp only [Try.ntmps24, List.size_toArray, List.length_cons, List.length_nil, Nat.reduceAdd, Nat.reduceSub, Array.replicate_succ, Array.replicate_zero, List.push_toArray, List.append_toArray, List.nil_append, List.cons_append]
  gi_wp2_with fail
  refine ⟨trivial, (callsIn_wide.2 (len_none h')).mono ?_⟩
  rintro e w' ⟨rfl, rfl⟩
  gi_wp2
  gi_loopw [6] (fun i wr => i = .int .i64 0 ∧ J [] wr) (fun _ _ => 0)
  case atStart => exact ⟨rfl, h0⟩
  case round =>
    obtain ⟨rfl, hJs⟩ := hrel
    gi_wp2
    go_end0
    exact ⟨⟨_, rfl⟩, .inl ⟨_, rfl, hJs⟩⟩
set_option maxRecDepth 100000 in
set_option maxHeartbeats 2000000 in
theorem used_none (h : NoS w p) : Calls Try.prog 11 #[.pointer p] w fun e w' => e = .returned (.int .i64 0) ∧ Below w.heap.size w w' := by
  refine calls_of_wp_marks Try.func11 rfl ?_
  simp only [Try.ntmps11, List.size_toArray, List.length_cons, List.length_nil, Nat.reduceAdd, Nat.reduceSub, Array.replicate_succ, Array.replicate_zero, List.push_toArray, List.append_toArray, List.nil_append, List.cons_append]
  go_wp2_with fail
  refine (all_ptr p _).mono ?_
  rintro e w' ⟨rfl, rfl⟩
  go_wp2_with fail
  have hX := Boxed.new (w.alloc (.cells #[.int .i64 0] 3)) 23 (.pointer p)
  have hN : Boxed ((w.alloc (.cells #[.int .i64 0] 3)).alloc (.cells #[.pointer p] 23)) w.heap.size 3 (.int .i64 0) := (Boxed.new w 3 (.int .i64 0)).alloc _
  have hB : Below w.heap.size w ((w.alloc (.cells #[.int .i64 0] 3)).alloc (.cells #[.pointer p] 23)) := below_alloc (below_new _ _) _
  rw [World.size_alloc] at hX
  have h1 := h.below hB
  generalize (w.alloc (.cells #[.int .i64 0] 3)).alloc (.cells #[.pointer p] 23) = W0 at *
  refine wp_range_nil (α := Nat) (gf := 24) (lb := #[.pointer (some ⟨w.heap.size + 1, 0, none⟩)]) rfl (fun _ _ => by kernel_rfl) (tells_none h1 hX) (fun _ hk => hk.elim) (fun _ => rfl) ?assign ?done
  case assign =>
    intro l x W K hK
    gi_wp2
    exact hK _
  case done =>
    rintro D W hD hb hk
    have hbx := boxed_below hN hb
    have hc := hbx.cell
    have hf := hbx.frozen
    have hDW := (Array.getElem?_eq_some_iff.1 hk).1
    have hsz := hB.size
    go_wp2
    refine leaves_marks (B := w.heap.size) [D] _ ?_ ?_ ?_
    · have := hb.size; simp [World.setCell]; omega
    · exact ⟨fun D' h' => by
        obtain rfl := List.mem_singleton.1 h'
        exact ⟨by omega, (KeepsOthers.setCell W _ _).same D' _ hk rfl⟩, by simp⟩
    · intro w' sh
      have hc' := shut_cell sh (hbx.set (.int .i64 0)).cell
      exact ⟨_, by simp [results, Try.results11, go_sem, hc'], rfl, ((below_then hB hb).setCell (p := ⟨w.heap.size, 0, none⟩) (Nat.le_refl _) _).trans sh.below⟩
end

/-- The worlds of the law: what its variables hold. -/
structure NW (w W : World) (Z L : Nat) (Ds : List Nat) : Prop where
  l0 : W.cell? ⟨L, 0, none⟩ = some (.pointer none)
  l1 : W.cell? ⟨L, 1, none⟩ = some (.pointer (some ⟨Z, 0, none⟩))
  z : NoS W (some ⟨Z, 0, none⟩)
  n : NoS W none
  box : Boxed W w.heap.size 4 (.bool false)
  below : Below w.heap.size w W
  mks : Marks w.heap.size W Ds
theorem NW.to {w W W' : World} {Z L : Nat} {Ds : List Nat} (h : NW w W Z L Ds) (k : Below W.heap.size W W') : NW w W' Z L Ds :=
  ⟨(k.cell (p := ⟨L, 0, none⟩) (World.block_lt_of_cell? W _ h.l0)).trans h.l0, (k.cell (p := ⟨L, 1, none⟩) (World.block_lt_of_cell? W _ h.l1)).trans h.l1, h.z.below k, .nil, boxed_below h.box k, below_then h.below k, h.mks.below k⟩
theorem NW.push {w W W' : World} {Z L D : Nat} {Ds : List Nat} (h : NW w W Z L Ds) (k : Below W.heap.size W W') (hD : W.heap.size ≤ D) (hk : W'.heap[D]? = some (.deferred (some []))) : NW w W' Z L (D :: Ds) :=
  have h' := h.to k
  ⟨h'.l0, h'.l1, h'.z, h'.n, h'.box, h'.below, h.mks.push h.below.size hD hk k⟩
theorem nw_start (w : World) : NW w (((w.alloc (.cells #[.bool false] 4)).alloc (.cells #[.slice none 0 0, .bool false] 54)).alloc (.cells #[.pointer none, .pointer (some ⟨w.heap.size + 1, 0, none⟩)] 23)) (w.heap.size + 1) (w.heap.size + 1 + 1) [] where
  l0 := by go_simp
  l1 := by go_simp
  z := .zero _ (by rw [World.cell?_alloc_past _ _ _ (by simp)]; go_simp) (by rw [World.cell?_alloc_past _ _ _ (by simp)]; go_simp)
  n := .nil
  box := ((Boxed.new w 4 _).alloc _).alloc _
  below := below_alloc (below_alloc (below_new _ _) _) _
  mks := marks_nil _ _

theorem eq_fn (a : Fn) (b c : Array Value) (W : World) : Sem.run Try.prog (binOp BinOp.eql 49 (Value.func a b c) Value.nilFunc) W = .ok (.bool false) W := by kernel_rfl
set_option maxRecDepth 100000 in
set_option maxHeartbeats 8000000 in
theorem none_any (slot pid page : Int) (w : World) : Calls Try.prog 7 #[.int .i64 slot, .int .i64 pid, .int .i64 page] w fun e w' => e = .returned (.bool true) ∧ Below w.heap.size w w' := by
  refine calls_of_wp_marks Try.func7 rfl ?_
  simp only [Try.ntmps7, List.size_toArray, List.length_cons, List.length_nil, Nat.reduceAdd, Nat.reduceSub, Array.replicate_succ, Array.replicate_zero, List.push_toArray, List.append_toArray, List.nil_append, List.cons_append]
  go_wp2_with fail
  have s0 := nw_start w
  have heq := eq_fn
  have hL1 : w.heap.size < w.heap.size + 1 + 1 := by omega
  generalize ((w.alloc (.cells #[.bool false] 4)).alloc (.cells #[.slice none 0 0, .bool false] 54)).alloc (.cells #[.pointer none, .pointer (some ⟨w.heap.size + 1, 0, none⟩)] 23) = W at *
  generalize w.heap.size + 1 + 1 = L at *
  generalize w.heap.size + 1 = Z at *
  refine wp_loop_rounds 3 ?_
  rw [rounds_succ]
  have l0 := s0.l0
  have l1 := s0.l1

  go_wp2_with fail
  refine (take_none s0.n pid page).mono ?_
  rintro e w' ⟨rfl, rfl⟩
  go_wp2_with fail
  refine (owner_none s0.n slot).mono ?_
  rintro e w' ⟨rfl, rfl⟩
  go_wp2_with fail
  refine (free_none s0.n slot).mono ?_
  rintro e w' ⟨rfl, rfl⟩
  go_wp2_with fail
  refine (len_none s0.n).mono ?_
  rintro e w' ⟨rfl, rfl⟩
  go_wp2_with fail
  refine (used_none s0.n).mono ?_
  rintro e WAa ⟨rfl, bAa⟩
  have sAa := s0.to bAa
  clear s0
  go_wp2_with fail
  refine (copy_none sAa.n).mono ?_
  rintro e w' ⟨rfl, rfl⟩
  go_wp2_with fail
  refine (all_ptr _ _).mono ?_
  rintro e WB ⟨rfl, rfl⟩
  have sBa := sAa.to (below_new _ (.cells #[.pointer none] 23))
  clear sAa
  go_wp2_with fail
  refine (all_ptr _ _).mono ?_
  rintro e WC ⟨rfl, rfl⟩
  have sCa := sBa.to (below_new _ (.cells #[.pointer none] 23))
  have hX := Boxed.new (WAa.alloc (.cells #[.pointer none] 23)) 23 (.pointer none)
  rw [World.size_alloc] at hX
  clear sBa bAa
  go_wp2_with fail
  generalize (WAa.alloc (.cells #[.pointer none] 23)).alloc (.cells #[.pointer none] 23) = WRa at *
  refine wp_range_nil (α := Nat) (gf := 24) (lb := #[.pointer (some ⟨WAa.heap.size + 1, 0, none⟩)]) rfl (fun _ _ => by kernel_rfl) (tells_none sCa.n hX) (fun _ hka => hka.elim) (fun _ => rfl) ?assign ?done
  case assign =>
    intro l x W K hK
    gi_wp2
    exact hK _
  case' done =>
    rintro Da Wa hDa hba hka
    have s1 := sCa.push hba hDa hka
    clear sCa hX
    go_wp2_with fail

    rw [rounds_succ]
    have l0 := s1.l0
    have l1 := s1.l1

    go_wp2_with fail
    refine (take_none s1.z pid page).mono ?_
    rintro e w' ⟨rfl, rfl⟩
    go_wp2_with fail
    refine (owner_none s1.z slot).mono ?_
    rintro e w' ⟨rfl, rfl⟩
    go_wp2_with fail
    refine (free_none s1.z slot).mono ?_
    rintro e w' ⟨rfl, rfl⟩
    go_wp2_with fail
    refine (len_none s1.z).mono ?_
    rintro e w' ⟨rfl, rfl⟩
    go_wp2_with fail
    refine (used_none s1.z).mono ?_
    rintro e WAb ⟨rfl, bAb⟩
    have sAb := s1.to bAb
    clear s1
    go_wp2_with fail
    refine (copy_none sAb.z).mono ?_
    rintro e w' ⟨rfl, rfl⟩
    go_wp2_with fail
    refine (all_ptr _ _).mono ?_
    rintro e WB ⟨rfl, rfl⟩
    have sBb := sAb.to (below_new _ (.cells #[.pointer (some ⟨Z, 0, none⟩)] 23))
    clear sAb
    go_wp2_with fail
    refine (all_ptr _ _).mono ?_
    rintro e WC ⟨rfl, rfl⟩
    have sCb := sBb.to (below_new _ (.cells #[.pointer (some ⟨Z, 0, none⟩)] 23))
    have hX := Boxed.new (WAb.alloc (.cells #[.pointer (some ⟨Z, 0, none⟩)] 23)) 23 (.pointer (some ⟨Z, 0, none⟩))
    rw [World.size_alloc] at hX
    clear sBb bAb
    go_wp2_with fail
    generalize (WAb.alloc (.cells #[.pointer (some ⟨Z, 0, none⟩)] 23)).alloc (.cells #[.pointer (some ⟨Z, 0, none⟩)] 23) = WRb at *
    refine wp_range_nil (α := Nat) (gf := 24) (lb := #[.pointer (some ⟨WAb.heap.size + 1, 0, none⟩)]) rfl (fun _ _ => by kernel_rfl) (tells_none sCb.z hX) (fun _ hkb => hkb.elim) (fun _ => rfl) ?assign2 ?done2
    case assign2 =>
      intro l x W K hK
      gi_wp2
      exact hK _
    case' done2 =>
      rintro Db Wb hDb hbb hkb
      have s2 := sCb.push hbb hDb hkb
      clear sCb hX
      go_wp2_with fail

      rw [rounds_succ]
      go_wp2_with fail
      refine (known_any Wb).mono ?_
      rintro e WF ⟨rfl, bF⟩
      have s3 := s2.to bF
      have hc := s3.box.cell
      have hf := s3.box.frozen
      clear s2
      go_wp2_with fail
      refine leaves_marks (B := w.heap.size) [Db, Da] _ ?_ (s3.mks.set _ _) ?_
      · have := s3.below.size; simpa [World.setCell] using this
      · intro w' sh
        have hc' := shut_cell sh (s3.box.set (.bool true)).cell
        exact ⟨_, by simp [results, Try.results7, go_sem, hc'], rfl, (s3.below.setCell (p := ⟨w.heap.size, 0, none⟩) (Nat.le_refl _) _).trans sh.below⟩
end Go.Proofs.Ytljgpiljfigojaa
