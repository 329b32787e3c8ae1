/-
  The document's slots in memory, and the walks of their methods.
-/
import Derived.Test.YtljgpiljfigojaaApart
namespace Go.Proofs.Ytljgpiljfigojaa
open Go.RowKit

/-- The document's n slots at R, their pages at X. -/
structure DS (w : World) (base R X n : Nat) (f : Sl) : Prop where
  row : w.rowIs R 42 1 (fun _ => .slice (some ⟨X, 0, none⟩) n n)
  own : OwnAt w base 45 2 (some ⟨X, 0, none⟩) n n X (cellsP n f)
  le : n ≤ 1024
  ok : OkS f
section
variable {w w' : World} {base R X n : Nat} {f : Sl}
theorem DS.r0 (s : DS w base R X n f) : w.cell? ⟨R, 0, none⟩ = some (.slice (some ⟨X, 0, none⟩) n n) := s.row.cell (i := 0) (by omega)
theorem DS.ltX (s : DS w base R X n f) : base ≤ X ∧ X < w.heap.size := (s.own.blk _ rfl).2
theorem DS.ne (s : DS w base R X n f) : X ≠ R := s.own.ne s.row (by decide) (by simp)
theorem DS.of_blocks (s : DS w base R X n f) (hs : w.heap.size ≤ w'.heap.size) (h1 : w'.heap[R]? = w.heap[R]?) (h2 : w'.heap[X]? = w.heap[X]?) : DS w' base R X n f := ⟨s.row.of_block h1, s.own.of_block hs (fun _ => h2), s.le, s.ok⟩
theorem DS.below (s : DS w base R X n f) (k : Below w.heap.size w w') : DS w' base R X n f := s.of_blocks k.size (k.block R s.row.lt) (k.block X s.ltX.2)
theorem DS.only (s : DS w base R X n f) {d : Nat} (k : Only w w' d) (h1 : R ≠ d) (h2 : X ≠ d) : DS w' base R X n f := s.of_blocks k.size (k.block R s.row.lt (fun e => h1 (by cases e; rfl))) (k.block X s.ltX.2 (fun e => h2 (by cases e; rfl)))
theorem DS.set (s : DS w base R X n f) {k : Nat} (hk : k < n) (v : Int × Int) (hv : 0 ≤ v.1 ∧ v.1 ≤ 8 ∧ 0 ≤ v.2 ∧ v.2 ≤ 1023 ∧ (v.1 = 0 → v.2 = 0)) :
    DS ((w.setCell ⟨X, k * 2, none⟩ (.int .i64 v.1)).setCell ⟨X, k * 2 + 1, none⟩ (.int .i64 v.2)) base R X n (updS f k v) :=
  ⟨(s.row.setOther (a := ⟨X, k * 2, none⟩) s.ne.symm _).setOther (a := ⟨X, k * 2 + 1, none⟩) s.ne.symm _, s.own.set2 hk v.1 v.2, s.le, okS_upd s.ok k hv⟩

theorem info45 : (Try.prog.info? 45).map (fun i => (i.zero, i.size, i.bytes)) = some (some (.agg #[.int .i64 0, .int .i64 0]), 2, 16) := by kernel_rfl
theorem run_mk45 (n : Nat) (hn : n ≤ 1024) (W : World) : (Instr.makeSlice 40 (.int .i64 (n : Int)) (.int .i64 (n : Int))).run Try.prog W = .ok (.slice (some ⟨W.heap.size, 0, none⟩) n n) (W.alloc (.cells (madeCells #[.int .i64 0, .int .i64 0] (n * 2)) 45)) := by
  obtain ⟨i, hi, hz, hs, hb⟩ := info_parts info45
  have := run_make (P := Try.prog) W 40 45 i _ Try.underlying40 hi hz .i64 .i64 n n (by omega) (by omega) (by rw [hb]; omega) (by omega)
  rw [this, hs]
  simp only [Int.toNat_natCast]
  rfl
def newD (w : World) (m : Nat) : World := (w.alloc (.cells (madeCells #[.int .i64 0, .int .i64 0] (m * 2)) 45)).alloc (.cells #[.slice (some ⟨w.heap.size, 0, none⟩) m m] 42)
theorem ds_new {w0 : World} (w : World) (hb : w0.heap.size ≤ w.heap.size) (n : Nat) (hn : n ≤ 1024) : DS (newD w n) w0.heap.size (w.heap.size + 1) w.heap.size n empty where
  row := by
    have h := World.rowIs_alloc (w.alloc (.cells (madeCells #[.int .i64 0, .int .i64 0] (n * 2)) 45)) #[.slice (some ⟨w.heap.size, 0, none⟩) n n] 42 (fun _ => .slice (some ⟨w.heap.size, 0, none⟩) n n) (fun i hi => by
      obtain rfl : i = 0 := by simp at hi; omega
      rfl)
    simpa [newD] using h
  own := (own_pairs (w := w) hb (by unfold maxLen; omega) rfl rfl).below (below_new _ _)
  le := hn
  ok := okS_empty
theorem below_newD (w : World) (m : Nat) : Below w.heap.size w (newD w m) := below_alloc (below_new _ _) _
theorem doc_new (n : Int) (w : World) :
    Calls Try.prog 15 #[.int .i64 n] w fun e w' => e = .returned (.pointer (some ⟨w.heap.size + 1, 0, none⟩)) ∧ w' = newD w (clampN n) := by
  by_cases h0 : n < 0
  · have e0 : clampN n = 0 := by unfold clampN; rw [if_pos h0]
    rw [e0]; clear e0
    have hmk : ∀ W : World, (Instr.makeSlice 40 (.int .i64 0) (.int .i64 0)).run Try.prog W = .ok (.slice (some ⟨W.heap.size, 0, none⟩) 0 0) (W.alloc (.cells (madeCells #[.int .i64 0, .int .i64 0] (0 * 2)) 45)) := run_mk45 0 (by omega)
    go_enter Try.func15, Try.ntmps15
    go_wp2
    go_ret
    exact ⟨rfl, rfl⟩
  · by_cases h1 : 1024 < n
    · have e0 : clampN n = 1024 := by unfold clampN; rw [if_neg h0, if_pos h1]
      rw [e0]; clear e0
      have hmk : ∀ W : World, (Instr.makeSlice 40 (.int .i64 1024) (.int .i64 1024)).run Try.prog W = .ok (.slice (some ⟨W.heap.size, 0, none⟩) 1024 1024) (W.alloc (.cells (madeCells #[.int .i64 0, .int .i64 0] (1024 * 2)) 45)) := run_mk45 1024 (by omega)
      go_enter Try.func15, Try.ntmps15
      go_wp2
      go_ret
      exact ⟨rfl, rfl⟩
    · obtain ⟨k, rfl⟩ := Int.eq_ofNat_of_zero_le (by omega : 0 ≤ n)
      have e0 : clampN k = k := by unfold clampN; rw [if_neg h0, if_neg h1]; simp
      rw [e0]; clear e0
      have hmk := run_mk45 k (by omega)
      go_enter Try.func15, Try.ntmps15
      go_wp2
      go_ret
      exact ⟨rfl, rfl⟩
theorem may_any (pid page : Int) (w : World) : Calls Try.prog 22 #[.int .i64 pid, .int .i64 page] w fun e w' => e = .returned (.bool (mayB pid page)) ∧ w = w' := by
  cases hb : mayB pid page with
  | true =>
    obtain ⟨h1, h2, h3, h4⟩ := mayB_true hb
    clear hb
    go_enter Try.func22, Try.ntmps22
    go_wp2
    go_ret
    exact ⟨rfl, rfl⟩
  | false =>
    have hd : 1024 ≤ page → decide (page ≤ 1023) = false := fun h => by simp; omega
    have HD := Lib.hid hd
    clear hd
    rcases mayB_false hb with h | ⟨h1, h2⟩ | ⟨h1, h2, h3⟩ | ⟨h1, h2, h3, h4⟩
    case inr.inr.inr =>
      have q := HD.out h4
      clear hb
      go_enter Try.func22, Try.ntmps22
      go_wp2
      go_ret
      exact ⟨rfl, rfl⟩
    all_goals
      clear hb
      go_enter Try.func22, Try.ntmps22
      go_wp2
      go_ret
      exact ⟨rfl, rfl⟩
set_option maxHeartbeats 1000000 in
theorem doc_take (s : DS w base R X n f) (pid page : Int) : Calls Try.prog 16 #[.pointer (some ⟨R, 0, none⟩), .int .i64 pid, .int .i64 page] w fun e w' =>
    e = .returned (.tuple #[.int .i64 (takeF n f pid page).1, .int .i64 (takeF n f pid page).2.1]) ∧ DS w' base R X n (takeF n f pid page).2.2 ∧ Only w w' X := by
  have r0 := s.r0
  have hn := s.le
  cases hb : mayB pid page with
  | false =>
    have e0 : takeF n f pid page = (0, 2, f) := by unfold takeF; rw [hb]; rfl
    rw [e0]; clear e0
    go_enter Try.func16, Try.ntmps16
    go_wp2_with fail
    refine (may_any pid page w).mono ?_
    rintro e w' ⟨rfl, rfl⟩
    rw [hb]
    go_wp2_with fail
    go_ret2
    exact ⟨rfl, s, only_refl _ _⟩
  | true =>
    obtain ⟨h1, h2, h3, h4⟩ := mayB_true hb
    have HB := Lib.hid hb
    clear hb
    go_enter Try.func16, Try.ntmps16
    go_wp2_with fail
    refine (may_any pid page w).mono ?_
    rintro e w' ⟨rfl, rfl⟩
    rw [HB.out]
    go_wp2_with fail
    go_loop [8] (fun i => ∃ k : Nat, k ≤ n ∧ i = .int .i64 k ∧ ∀ j, j < k → (f j).1 ≠ 0) (fun i => n - (intOf i).toNat)
    case atStart => exact ⟨0, Nat.zero_le _, rfl, fun j hj => absurd hj (Nat.not_lt_zero j)⟩
    case round =>
      obtain ⟨k, hk, rfl, hne⟩ := hrel
      have Hne := Lib.hid hne; clear hne
      by_cases hlt : k < n
      · have c1 := s.own.fst hlt
        by_cases h0 : (f k).1 = 0
        · have c2 := s.own.snd hlt
          have f1 := s.own.frozen (by omega) (k * 2)
          have f2 := s.own.frozen (by omega) (k * 2 + 1)
          have e0 := takeF_at HB.out hlt h0 Hne.out
          have E0 := Lib.hid e0
          have q : ((f k).1 == (0 : Int)) = true := by rw [h0]; rfl
          clear e0 h0
          go_wp2
          go_ret2
          rw [E0.out]
          exact ⟨rfl, s.set hlt (pid, page) ⟨by omega, by omega, by omega, by omega, by intro h; simp at h; omega⟩, only_set2 _ _ _ _ _ _⟩
        · have q : ((f k).1 == (0 : Int)) = false := beq_eq_false_iff_ne.2 h0
          have H0 := Lib.hid h0
          clear h0
          go_wp2
          go_round
          case rel => exact ⟨k + 1, by omega, by go_num, fun j hj => by
            rcases Nat.lt_or_ge j k with h | h
            · exact Hne.out j h
            · obtain rfl : j = k := by omega
              exact H0.out⟩
          case measure => simp [intOf]; omega
      · obtain rfl : k = n := by omega
        have E0 := Lib.hid (takeF_full HB.out Hne.out)
        go_wp2
        go_ret2
        rw [E0.out]
        exact ⟨rfl, s, only_refl _ _⟩
set_option maxHeartbeats 1000000 in
theorem doc_free (s : DS w base R X n f) (slot : Int) : Calls Try.prog 17 #[.pointer (some ⟨R, 0, none⟩), .int .i64 slot] w fun e w' =>
    e = .returned (.int .i64 (freeF n f slot).1) ∧ DS w' base R X n (freeF n f slot).2 ∧ Only w w' X := by
  have r0 := s.r0
  have hn := s.le
  cases hb : badI n slot with
  | true =>
    have e0 : freeF n f slot = (2, f) := by unfold freeF; rw [hb]; rfl
    rw [e0]; clear e0
    rcases badI_true hb with h | ⟨h1, h2⟩
    all_goals
      clear hb
      go_enter Try.func17, Try.ntmps17
      go_wp2
      go_ret
      exact ⟨rfl, s, only_refl _ _⟩
  | false =>
    obtain ⟨h1, h2⟩ := badI_false hb
    obtain ⟨k, rfl⟩ := Int.eq_ofNat_of_zero_le h1
    have hk : k < n := by omega
    have c1 := s.own.fst hk
    have c2 := s.own.snd hk
    have f1 := s.own.frozen (by omega) (k * 2)
    have f2 := s.own.frozen (by omega) (k * 2 + 1)
    by_cases h0 : (f k).1 = 0
    · have e0 : freeF n f k = (7, f) := by unfold freeF; rw [hb]; simp [h0]
      rw [e0]
      have q : ((f k).1 == (0 : Int)) = true := by rw [h0]; rfl
      clear e0 h0 hb
      go_enter Try.func17, Try.ntmps17
      go_wp2
      go_ret
      exact ⟨rfl, s, only_refl _ _⟩
    · have e0 : freeF n f k = (0, updS f k (0, 0)) := by unfold freeF; rw [hb]; simp [h0]
      rw [e0]
      have q : ((f k).1 == (0 : Int)) = false := beq_eq_false_iff_ne.2 h0
      clear e0 h0 hb
      go_enter Try.func17, Try.ntmps17
      go_wp2
      go_ret
      exact ⟨rfl, s.set hk (0, 0) (by simp), only_set2 _ _ _ _ _ _⟩

/-- The taken slots, as numbers. -/
def usedV (n : Nat) (f : Sl) : List Value := (usedL n f).map fun (k : Nat) => Value.int .i64 (k : Int)
theorem usedV_len (n : Nat) (f : Sl) : (usedV n f).length = (usedL n f).length := by simp [usedV]
theorem info3 : (Try.prog.info? 3).map (fun i => (i.zero, i.size, i.bytes)) = some (some (.int .i64 0), 1, 8) := by kernel_rfl
set_option maxHeartbeats 1000000 in
theorem doc_all (s : DS w base R X n f) : Calls Try.prog 19 #[.pointer (some ⟨R, 0, none⟩)] w fun e w' =>
    ∃ a c g, e = .returned (.slice a (usedL n f).length c) ∧ OwnAt w' w.heap.size 3 1 a (usedL n f).length c g (usedV n f) ∧ Below w.heap.size w w' := by
  have hn := s.le
  obtain ⟨i0, hi, hz0, hz1, hz2⟩ := info_parts info3
  go_enter Try.func19, Try.ntmps19
  have r0 := s.r0
  go_wp2_with fail
  clear r0
  go_loopw [3, 4] (fun v i wr => ∃ k : Nat, k ≤ n ∧ i = .int .i64 k ∧ (∃ a c, v = .slice a (usedL k f).length c) ∧ wr.ownsRow w.heap.size 3 1 v (usedL k f).length (usedV k f) ∧ Below w.heap.size w wr) (fun _ i _ => n - (intOf i).toNat)
  case atStart => exact ⟨0, Nat.zero_le _, rfl, ⟨none, 0, rfl⟩, by exact World.ownsRow_nil _ _ _ _, Below.refl _ _⟩
  case round =>
    obtain ⟨k, hk, rfl, ⟨a1, c1, rfl⟩, hown, hb⟩ := hrel
    have t := s.below hb
    have r0 := t.r0
    have hlen := usedL_le k f
    have hsz := hb.size
    by_cases hlt : k < n
    · have cf := t.own.fst hlt
      by_cases h0 : (f k).1 = 0
      · have q : ((f k).1 != (0 : Int)) = false := by rw [h0]; rfl
        have E1 := Lib.hid (usedL_out h0)
        have E2 := Lib.hid (show usedV (k + 1) f = usedV k f by unfold usedV; rw [usedL_out h0])
        clear h0
        go_wp2_with fail
        go_roundw
        case rel => exact ⟨k + 1, by omega, by go_num, ⟨a1, c1, by rw [E1.out]⟩, by rw [E1.out, E2.out]; exact hown, hb⟩
        case measure => simp [intOf]; omega
      · have q : ((f k).1 != (0 : Int)) = true := by rw [bne_iff_ne]; exact h0
        have E1 := Lib.hid (usedL_in h0)
        have E2 := Lib.hid (show usedV (k + 1) f = usedV k f ++ [.int .i64 (k : Int)] by unfold usedV; rw [usedL_in h0, List.map_append]; rfl)
        clear h0
        generalize hm : (usedL k f).length = m at *
        generalize usedV k f = l at *
        have HM := Lib.hid hm
        clear hm
        go_wp2_with (at_builtin; refine wpList_append_own _ rfl (.tmp 23) (.tmp 25) 46 rfl w.heap.size 3 i0 (.int .i64 0) 1 8 Try.underlying46 hi hz0 hz1 hz2 rfl (by decide) _ _ _ rfl (hown.alloc _) ⟨wr.heap.size, 0, none⟩ 1 1 [.int .i64 (k : Int)] rfl rfl (cell_one_new _ _ _) (ints_oneCell .i64 [(k : Int)]) (by unfold maxLen; omega) (by omega) (by simp; omega) ?_)
        intro v' w1 hown' hgrow _
        have hb1 : Below w.heap.size w w1 := (hb.alloc hsz _).grown hgrow (by simp; omega) (fun j hj => (hown.lt j hj).1)
        obtain ⟨a2, c2, g2, rfl, _⟩ := own_at hown'
        clear hgrow hown
        go_wp2_with fail
        go_roundw
        case rel => exact ⟨k + 1, by omega, by go_num, ⟨a2, c2, by rw [E1.out, List.length_append, HM.out]; rfl⟩, by rw [E1.out, E2.out, List.length_append, HM.out]; exact hown', hb1⟩
        case measure => simp [intOf]; omega
    · obtain rfl : k = n := by omega
      obtain ⟨a2, c2, g2, hv, oa⟩ := own_at hown
      obtain ⟨rfl, -, rfl⟩ := Value.slice.inj hv
      have OA := Lib.hid (And.intro oa hb)
      clear hv oa hown
      go_wp2_with fail
      go_ret
      exact ⟨_, _, g2, rfl, OA.out.1, OA.out.2⟩
end
end Go.Proofs.Ytljgpiljfigojaa
