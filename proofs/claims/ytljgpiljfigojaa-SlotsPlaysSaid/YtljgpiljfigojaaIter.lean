/-
  The walks of All, of what it hands back, and of Used.
-/
import Derived.Test.YtljgpiljfigojaaTab
import Derived.Test.YtljgpiljfigojaaRF
namespace Go.Proofs.Ytljgpiljfigojaa
open Go.RowKit
attribute [local go_sem] Oper.semAt_some

theorem usedL_prefix {n : Nat} {f : Sl} : ∀ {k : Nat}, k ≤ n → usedL k f <+: usedL n f := by
  induction n with
  | zero =>
    intro k hk
    obtain rfl : k = 0 := by omega
    exact List.prefix_refl _
  | succ n ih =>
    intro k hk
    rcases Nat.lt_or_ge n k with h | h
    · obtain rfl : k = n + 1 := by omega
      exact List.prefix_refl _
    · exact (ih h).trans (by rw [usedL_succ]; exact List.prefix_append _ _)
theorem usedL_in {k : Nat} {f : Sl} (h : (f k).1 ≠ 0) : usedL (k + 1) f = usedL k f ++ [k] := by rw [usedL_succ, if_neg h]
theorem usedL_out {k : Nat} {f : Sl} (h : (f k).1 = 0) : usedL (k + 1) f = usedL k f := by rw [usedL_succ, if_pos h, List.append_nil]
theorem usedL_lt_len {n k : Nat} {f : Sl} (hk : k < n) (h : (f k).1 ≠ 0) : (usedL k f).length < (usedL n f).length := by
  have := (usedL_prefix (n := n) (f := f) (k := k + 1) (by omega)).length_le
  rw [usedL_in h] at this
  simp at this
  omega

theorem all_any (S : Nat) (w : World) : Calls Try.prog 20 #[.pointer (some ⟨S, 0, none⟩)] w fun e w' =>
    e = .returned (.func (.func 24) #[] #[.pointer (some ⟨w.heap.size, 0, none⟩)]) ∧ w' = w.alloc (.cells #[.pointer (some ⟨S, 0, none⟩)] 23) := by
  go_enter Try.func20, Try.ntmps20
  go_wp2
  go_ret
  exact ⟨rfl, rfl⟩

/-- What the walk over the slots reads. -/
def keepS (X S B : Nat) (k : Nat) : Prop := k = X ∨ k = S ∨ k = B

set_option maxRecDepth 100000 in
set_option maxHeartbeats 2000000 in
theorem tells_all {w : World} {base S B n c X : Nat} {f : Sl} (s : SS w base S B n c f) (hX : Boxed w X 23 (.pointer (some ⟨S, 0, none⟩))) :
    Tells Try.prog 24 #[.pointer (some ⟨X, 0, none⟩)] (fun k : Nat => #[Value.int .i64 (k : Int)]) (keepS X S B) (usedL n f) w := by
  intro l J Jx W hW hJ hJx hY h0
  have s' := s.below hW
  have hX' := boxed_below hX hW
  clear s hX
  have hn := s'.le
  have hc := s'.lec
  have hx := hX'.cell
  refine callsIn_of_wp Try.func24 rfl trivial ?_ rfl
  simp only [Try.ntmps24, List.size_toArray, List.length_cons, List.length_nil, Nat.reduceAdd, Nat.reduceSub, Array.replicate_succ, Array.replicate_zero, List.push_toArray, List.append_toArray, List.nil_append, List.cons_append]
  gi_wp2_with fail
  refine ⟨trivial, (callsIn_wide.2 (len_any s')).mono ?_⟩
  rintro e w' ⟨rfl, rfl⟩
  gi_wp2
  gi_loopw [6] (fun i wr => ∃ k : Nat, k ≤ n ∧ i = .int .i64 k ∧ J (usedL k f) wr ∧ Kept (keepS X S B) W wr) (fun i _ => n - (intOf i).toNat)
  case atStart => exact ⟨0, Nat.zero_le _, rfl, h0, fun _ _ => rfl⟩
  case round =>
    obtain ⟨k, hk, rfl, hJs, hkp⟩ := hrel
    have hx1 : wr.cell? ⟨X, 0, none⟩ = some (.pointer (some ⟨S, 0, none⟩)) := (World.cell?_of_block (w := W) (hkp X (.inl rfl))).trans hx
    have hs0 : wr.cell? ⟨S, 0, none⟩ = some (.slice (some ⟨B, 0, none⟩) n c) := (World.cell?_of_block (w := W) (hkp S (.inr (.inl rfl)))).trans s'.s0
    by_cases hlt : k < n
    · have hb0 : wr.cell? ⟨B, k * 2, none⟩ = some (.int .i64 (f k).1) := (World.cell?_of_block (w := W) (hkp B (.inr (.inr rfl)))).trans (s'.own.fst hlt)
      by_cases hz : (f k).1 = 0
      · have e1 := usedL_out hz
        have E1 := Lib.hid e1
        have q : ((f k).1 != (0 : Int)) = false := by rw [hz]; rfl
        clear e1 hz
        gi_wp2
        refine ⟨fun _ h => (by cases h), ?_⟩
        gi_wp2
        go_roundw
        case rel => exact ⟨k + 1, by omega, by go_num, by rw [E1.out]; exact hJs, hkp⟩
        case measure => simp [intOf]; omega
      · obtain ⟨fn, tmps, assign, body, hy, hR⟩ := hY _ k wr hJs (usedL_lt_len hlt hz)
        have e1 := usedL_in hz
        have E1 := Lib.hid e1
        have q : ((f k).1 != (0 : Int)) = true := by rw [bne_iff_ne]; exact hz
        have HP := Lib.hid (usedL_prefix (n := n) (f := f) (k := k + 1) (by omega))
        clear e1 hz
        gi_wp2
        refine hR.mono ?_
        rintro e W3 (⟨rfl, hJ3, hk3⟩ | ⟨rfl, hJx3⟩)
        · gi_wp2
          go_roundw
          case rel => exact ⟨k + 1, by omega, by go_num, by rw [E1.out]; exact hJ3, fun j hj => (hk3 j hj).trans (hkp j hj)⟩
          case measure => simp [intOf]; omega
        · gi_wp2
          refine bodyPost_ret (results_none rfl _ _ _) rfl ?_
          exact ⟨⟨_, rfl⟩, .inr ⟨_, by rw [← E1.out]; exact HP.out, hJx3⟩⟩
    · obtain rfl : k = n := by omega
      gi_wp2
      go_end0
      exact ⟨⟨_, rfl⟩, .inl ⟨_, rfl, hJs⟩⟩

set_option maxRecDepth 100000 in
set_option maxHeartbeats 2000000 in
theorem used_any {w : World} {base S B n c : Nat} {f : Sl} (s : SS w base S B n c f) :
    Calls Try.prog 11 #[.pointer (some ⟨S, 0, none⟩)] w fun e w' => e = .returned (.int .i64 ((usedL n f).length : Int)) ∧ Below w.heap.size w w' := by
  refine calls_of_wp_marks Try.func11 rfl ?_
  simp only [Try.ntmps11, List.size_toArray, List.length_cons, List.length_nil, Nat.reduceAdd, Nat.reduceSub, Array.replicate_succ, Array.replicate_zero, List.push_toArray, List.append_toArray, List.nil_append, List.cons_append]
  go_wp2_with fail
  refine (all_any S _).mono ?_
  rintro e w' ⟨rfl, rfl⟩
  go_wp2_with fail
  have hX := Boxed.new (w.alloc (.cells #[.int .i64 0] 3)) 23 (.pointer (some ⟨S, 0, none⟩))
  have hN : Boxed ((w.alloc (.cells #[.int .i64 0] 3)).alloc (.cells #[.pointer (some ⟨S, 0, none⟩)] 23)) w.heap.size 3 (.int .i64 0) := (Boxed.new w 3 (.int .i64 0)).alloc _
  have hB : Below w.heap.size w ((w.alloc (.cells #[.int .i64 0] 3)).alloc (.cells #[.pointer (some ⟨S, 0, none⟩)] 23)) := below_alloc (below_new _ _) _
  have hsz : ((w.alloc (.cells #[.int .i64 0] 3)).alloc (.cells #[.pointer (some ⟨S, 0, none⟩)] 23)).heap.size = w.heap.size + 2 := by simp
  rw [World.size_alloc] at hX
  have s1 := s.below hB
  have hl := usedL_le n f
  have hn := s.le
  have hlt := s.ltB
  have hltS := s.srow.lt
  generalize (w.alloc (.cells #[.int .i64 0] 3)).alloc (.cells #[.pointer (some ⟨S, 0, none⟩)] 23) = W0 at *
  refine wp_range (α := Nat) (gf := 24) (lb := #[.pointer (some ⟨w.heap.size + 1, 0, none⟩)]) rfl (fun _ _ => by kernel_rfl) (tells_all s1 hX)
    (fun k hk => by rw [hsz]; rcases hk with rfl | rfl | rfl <;> omega) (fun _ => rfl)
    (fun pre W => Boxed W w.heap.size 3 (.int .i64 (pre.length : Int)) ∧ Below w.heap.size w W)
    (fun _ _ _ => False) (fun _ _ _ h k => ⟨boxed_step h.1 k, h.2.trans (k.below (by omega) h.2.size)⟩) (fun _ _ _ _ h _ => h) ⟨hN, hB⟩
    (fun x a' _ => a' = { tmps := #[.pointer (some ⟨S, 0, none⟩), undef, .pointer (some ⟨w.heap.size, 0, none⟩), .pointer (some ⟨S, 0, none⟩), .func (.func 24) #[] #[.pointer (some ⟨w.heap.size + 1, 0, none⟩)], .int .i64 (x : Int), undef, undef, undef], defers := [] })
    (fun _ _ _ _ h _ => h) ?assign ?body ?done ?stop
  case assign =>
    intro l pre x W K hI hK
    gi_wp2
    exact hK _ _ (KeepsFrom.refl _ _) (fun _ _ => rfl) hI (by simp)
  case body =>
    rintro l pre x a' W hl ⟨r, hr⟩ ⟨hb, hbl⟩ rfl hlen
    have hc := hb.cell
    have hf := hb.frozen
    have hlen' : pre.length < 1024 := by omega
    gi_wp2
    refine ⟨keeps_set _ _ _, fun k hk => Below.heap_setCell _ _ _ _ ?_, ?_, hbl.setCell (p := ⟨w.heap.size, 0, none⟩) (Nat.le_refl _) _⟩
    · rcases hk with rfl | rfl | rfl <;> simp <;> omega
    · have := hb.set (.int .i64 ((pre.length : Int) + 1))
      rw [List.length_append]
      simpa using this
  case done =>
    rintro D W hD ⟨hb, hbl⟩ hk
    have hc := hb.cell
    have hf := hb.frozen
    go_wp2
    refine leaves_marks (B := w.heap.size) [D] _ ?_ ?_ ?_
    · have := hbl.size; simpa [World.setCell] using this
    · exact ⟨fun D' h' => by
        obtain rfl := List.mem_singleton.1 h'
        exact ⟨by omega, (KeepsOthers.setCell W _ _).same D' _ hk rfl⟩, by simp⟩
    · intro w' sh
      have hc' := shut_cell sh (hb.set (.int .i64 ((usedL n f).length : Int))).cell
      exact ⟨_, by simp [results, Try.results11, go_sem, hc'], rfl, (hbl.setCell (p := ⟨w.heap.size, 0, none⟩) (Nat.le_refl _) _).trans sh.below⟩
  case stop =>
    rintro D c pre W _ _ h _
    exact h.elim
end Go.Proofs.Ytljgpiljfigojaa
