/-
  The slots in memory, and the walks of New, Len, Owner, Index, Take, Free, Clone, Copy.
-/
import Derived.Test.YtljgpiljfigojaaRows
import Derived.Test.YtljgpiljfigojaaPlain
import Derived.Test.YtljgpiljfigojaaPairs
namespace Go.Proofs.Ytljgpiljfigojaa
open Go.RowKit

def slotsF (n c B : Nat) (i : Nat) : Value := if i = 0 then .slice (some ⟨B, 0, none⟩) n c else .bool true
/-- n slots at S, their owners at B. -/
structure SS (w : World) (base S B n c : Nat) (f : Sl) : Prop where
  srow : w.rowIs S 54 2 (slotsF n c B)
  own : OwnAt w base 59 2 (some ⟨B, 0, none⟩) n c B (cellsP n f)
  le : n ≤ 1024
  ok : OkS f
section
variable {w w' : World} {base S B n c : Nat} {f : Sl}
theorem SS.s0 (s : SS w base S B n c f) : w.cell? ⟨S, 0, none⟩ = some (.slice (some ⟨B, 0, none⟩) n c) := s.srow.cell (i := 0) (by omega)
theorem SS.s1 (s : SS w base S B n c f) : w.cell? ⟨S, 1, none⟩ = some (.bool true) := s.srow.cell (i := 1) (by omega)
theorem SS.ltB (s : SS w base S B n c f) : base ≤ B ∧ B < w.heap.size := (s.own.blk _ rfl).2
theorem SS.ne (s : SS w base S B n c f) : B ≠ S := s.own.ne s.srow (by decide) (by simp)
theorem SS.lec (s : SS w base S B n c f) : n ≤ c ∧ c ≤ 9223372036854775807 := by have := s.own.le; unfold maxLen at this; omega
theorem SS.below (s : SS w base S B n c f) (k : Below w.heap.size w w') : SS w' base S B n c f := ⟨rowIs_below s.srow k, s.own.below k, s.le, s.ok⟩
theorem SS.only (s : SS w base S B n c f) {d : Nat} (k : Only w w' d) (h1 : S ≠ d) (h2 : B ≠ d) : SS w' base S B n c f := ⟨rowIs_only s.srow k h1, s.own.only k (fun _ => h2), s.le, s.ok⟩
theorem SS.of_blocks (s : SS w base S B n c f) (hs : w.heap.size ≤ w'.heap.size) (h1 : w'.heap[S]? = w.heap[S]?) (h2 : w'.heap[B]? = w.heap[B]?) : SS w' base S B n c f := ⟨s.srow.of_block h1, s.own.of_block hs (fun _ => h2), s.le, s.ok⟩
theorem SS.set (s : SS w base S B n c f) {k : Nat} (hk : k < n) (v : Int × Int) (hv : 0 ≤ v.1 ∧ v.1 ≤ 8 ∧ 0 ≤ v.2 ∧ v.2 ≤ 1023 ∧ (v.1 = 0 → v.2 = 0)) :
    SS ((w.setCell ⟨B, k * 2, none⟩ (.int .i64 v.1)).setCell ⟨B, k * 2 + 1, none⟩ (.int .i64 v.2)) base S B n c (updS f k v) :=
  ⟨(s.srow.setOther (a := ⟨B, k * 2, none⟩) s.ne.symm _).setOther (a := ⟨B, k * 2 + 1, none⟩) s.ne.symm _, s.own.set2 hk v.1 v.2, s.le, okS_upd s.ok k hv⟩
theorem SS.congr (s : SS w base S B n c f) {f' : Sl} (ok : OkS f') (h : ∀ k, k < n → f k = f' k) : SS w base S B n c f' := ⟨s.srow, s.own.congr h, s.le, ok⟩
theorem only_set2 (w : World) (B o o' : Nat) (x y : Value) : Only w ((w.setCell ⟨B, o, none⟩ x).setCell ⟨B, o', none⟩ y) B := only_set (only_set (only_refl w B) _ _) _ _
end

def clampN (n : Int) : Nat := if n < 0 then 0 else if 1024 < n then 1024 else n.toNat
theorem clampN_le (n : Int) : clampN n ≤ 1024 := by unfold clampN; split <;> (try split) <;> omega
theorem clampN_nat {n : Nat} (h : n ≤ 1024) : clampN (n : Int) = n := by unfold clampN; rw [if_neg (by omega), if_neg (by omega)]; simp
theorem info59 : (Try.prog.info? 59).map (fun i => (i.zero, i.size, i.bytes)) = some (some (.agg #[.int .i64 0, .int .i64 0]), 2, 16) := by kernel_rfl
theorem run_mk (n : Nat) (hn : n ≤ 1024) (W : World) : (Instr.makeSlice 52 (.int .i64 (n : Int)) (.int .i64 (n : Int))).run Try.prog W = .ok (.slice (some ⟨W.heap.size, 0, none⟩) n n) (W.alloc (.cells (madeCells #[.int .i64 0, .int .i64 0] (n * 2)) 59)) := by
  obtain ⟨i, hi, hz, hs, hb⟩ := info_parts info59
  have := run_make (P := Try.prog) W 52 59 i _ Try.underlying52 hi hz .i64 .i64 n n (by omega) (by omega) (by rw [hb]; omega) (by omega)
  rw [this, hs]
  simp only [Int.toNat_natCast]
  rfl
def newW (w : World) (m : Nat) : World := (w.alloc (.cells (madeCells #[.int .i64 0, .int .i64 0] (m * 2)) 59)).alloc (.cells #[.slice (some ⟨w.heap.size, 0, none⟩) m m, .bool true] 54)
theorem ss_new {w0 : World} (w : World) (hb : w0.heap.size ≤ w.heap.size) (n : Nat) (hn : n ≤ 1024) : SS (newW w n) w0.heap.size (w.heap.size + 1) w.heap.size n n empty where
  srow := by
    have h := World.rowIs_alloc (w.alloc (.cells (madeCells #[.int .i64 0, .int .i64 0] (n * 2)) 59)) #[.slice (some ⟨w.heap.size, 0, none⟩) n n, .bool true] 54 (slotsF n n w.heap.size) (fun i hi => by
      rcases (show i = 0 ∨ i = 1 by simp at hi; omega) with rfl | rfl <;> rfl)
    simpa [newW] using h
  own := (own_pairs (w := w) hb (by unfold maxLen; omega) rfl rfl).below (below_new _ _)
  le := hn
  ok := okS_empty
theorem below_newW (w : World) (m : Nat) : Below w.heap.size w (newW w m) := below_alloc (below_new _ _) _

theorem new_any (n : Int) (w : World) :
    Calls Try.prog 9 #[.int .i64 n] w fun e w' => e = .returned (.pointer (some ⟨w.heap.size + 1, 0, none⟩)) ∧ w' = newW w (clampN n) := by
  by_cases h0 : n < 0
  · have e0 : clampN n = 0 := by unfold clampN; rw [if_pos h0]
    rw [e0]; clear e0
    have hmk : ∀ W : World, (Instr.makeSlice 52 (.int .i64 0) (.int .i64 0)).run Try.prog W = .ok (.slice (some ⟨W.heap.size, 0, none⟩) 0 0) (W.alloc (.cells (madeCells #[.int .i64 0, .int .i64 0] (0 * 2)) 59)) := run_mk 0 (by omega)
    go_enter Try.func9, Try.ntmps9
    go_wp2
    go_ret
    exact ⟨rfl, rfl⟩
  · by_cases h1 : 1024 < n
    · have e0 : clampN n = 1024 := by unfold clampN; rw [if_neg h0, if_pos h1]
      rw [e0]; clear e0
      have hmk : ∀ W : World, (Instr.makeSlice 52 (.int .i64 1024) (.int .i64 1024)).run Try.prog W = .ok (.slice (some ⟨W.heap.size, 0, none⟩) 1024 1024) (W.alloc (.cells (madeCells #[.int .i64 0, .int .i64 0] (1024 * 2)) 59)) := run_mk 1024 (by omega)
      go_enter Try.func9, Try.ntmps9
      go_wp2
      go_ret
      exact ⟨rfl, rfl⟩
    · obtain ⟨k, rfl⟩ := Int.eq_ofNat_of_zero_le (by omega : 0 ≤ n)
      have e0 : clampN k = k := by unfold clampN; rw [if_neg h0, if_neg h1]; simp
      rw [e0]; clear e0
      have hmk := run_mk k (by omega)
      go_enter Try.func9, Try.ntmps9
      go_wp2
      go_ret
      exact ⟨rfl, rfl⟩
section
variable {w w' : World} {base S B n c : Nat} {f : Sl}
theorem len_any (s : SS w base S B n c f) : Calls Try.prog 13 #[.pointer (some ⟨S, 0, none⟩)] w fun e w' => e = .returned (.int .i64 n) ∧ w = w' := by
  have s0 := s.s0
  have hn := s.le
  clear s
  go_enter Try.func13, Try.ntmps13
  go_wp2
  go_ret
  exact ⟨rfl, rfl⟩

theorem owner_any (s : SS w base S B n c f) (i : Int) : Calls Try.prog 14 #[.pointer (some ⟨S, 0, none⟩), .int .i64 i] w fun e w' =>
    e = .returned (.tuple #[.int .i64 (ownerF n f i).1, .int .i64 (ownerF n f i).2, .bool ((ownerF n f i).1 != 0)]) ∧ Below w.heap.size w w' := by
  have s0 := s.s0
  have hn := s.le
  have hc := s.lec
  cases hb : badI n i with
  | true =>
    have e0 : ownerF n f i = (0, 0) := by unfold ownerF; rw [hb]; rfl
    rw [e0]; clear e0
    rcases badI_true hb with h | ⟨h1, h2⟩
    all_goals
      clear hb
      go_enter Try.func14, Try.ntmps14
      go_wp2_with (go_at_call 13; refine (len_any s).mono ?_; rintro e w' ⟨rfl, rfl⟩)
      go_ret3
      exact ⟨rfl, Below.refl _ _⟩
  | false =>
    obtain ⟨h1, h2⟩ := badI_false hb
    obtain ⟨k, rfl⟩ := Int.eq_ofNat_of_zero_le h1
    have e0 : ownerF n f k = f k := by unfold ownerF; rw [hb]; rfl
    rw [e0]; clear e0
    have c1 := s.own.fst (k := k) (by omega)
    have c2 := s.own.snd (k := k) (by omega)
    clear hb
    go_enter Try.func14, Try.ntmps14
    go_wp2_with (go_at_call 13; refine (len_any s).mono ?_; rintro e w' ⟨rfl, rfl⟩)
    go_quiet (fail)
    go_wp2
    go_ret3
    exact ⟨rfl, below_drewN (below_new _ _) _⟩

set_option maxHeartbeats 1000000 in
theorem index_any (s : SS w base S B n c f) : Calls Try.prog 21 #[.slice (some ⟨B, 0, none⟩) n c, .agg #[.int .i64 0, .int .i64 0]] w fun e w' =>
    e = .returned (.int .i64 (leastI n f)) ∧ Below w.heap.size w w' := by
  have hn := s.le
  have hc := s.lec
  have hB := s.ltB
  go_enter Try.func21, Try.ntmps21
  go_wp2
  go_loopw [8] (fun i wr => ∃ k : Nat, k ≤ n ∧ i = .int .i64 k ∧ (∃ d, wr = (w.alloc (.cells #[.int .i64 0, .int .i64 0] 59)).drewN d) ∧ ∀ j, j < k → (f j).1 ≠ 0) (fun i _ => n - (intOf i).toNat)
  case atStart => exact ⟨0, Nat.zero_le _, rfl, ⟨0, rfl⟩, fun j hj => absurd hj (Nat.not_lt_zero j)⟩
  case round =>
    obtain ⟨k, hk, rfl, ⟨d, rfl⟩, hne⟩ := hrel
    have Hne := Lib.hid hne; clear hne
    have hnew : Below w.heap.size w (w.alloc (.cells #[.int .i64 0, .int .i64 0] 59)) := below_new _ _
    by_cases hlt : k < n
    · have c1 := s.own.fst hlt
      have c2 := s.own.snd hlt
      have hi0 : (0 : Int) ≤ (k : Int) := Int.natCast_nonneg _
      have hi1 : (k : Int) < (n : Int) := by omega
      by_cases h0 : (f k).1 = 0
      · have h1 := (s.ok k).2.2.2.2 h0
        have e0 := leastI_at hlt h0 Hne.out
        have E0 := Lib.hid e0; clear e0
        rw [h0] at c1
        rw [h1] at c2
        clear h0 h1
        go_wp2
        go_quiet (fail)
        go_wp2
        go_ret
        rw [E0.out]
        exact ⟨rfl, below_drewN (below_drewN hnew _) _⟩
      · have q : ((0 : Int) == (f k).1) = false := beq_eq_false_iff_ne.2 (fun e => h0 e.symm)
        have H0 := Lib.hid h0; clear h0
        go_wp2
        go_quiet (fail)
        go_wp2
        go_roundw
        case rel => exact ⟨k + 1, by omega, by go_num, ⟨_, rfl⟩, fun j hj => by
          rcases Nat.lt_or_ge j k with h | h
          · exact Hne.out j h
          · obtain rfl : j = k := by omega
            exact H0.out⟩
        case measure => simp [intOf]; omega
    · obtain rfl : k = n := by omega
      have E0 := Lib.hid (leastI_none Hne.out)
      go_wp2
      go_ret
      rw [E0.out]
      exact ⟨rfl, below_drewN hnew _⟩

set_option maxHeartbeats 1000000 in
theorem take_any (s : SS w base S B n c f) (pid page : Int) : Calls Try.prog 10 #[.pointer (some ⟨S, 0, none⟩), .int .i64 pid, .int .i64 page] w fun e w' =>
    e = .returned (.tuple #[.int .i64 (takeF n f pid page).1, .int .i64 (takeF n f pid page).2.1]) ∧ SS w' base S B n c (takeF n f pid page).2.2 ∧ Only w w' B := by
  have s0 := s.s0
  have s1 := s.s1
  have hn := s.le
  have hc := s.lec
  cases hb : mayB pid page with
  | false =>
    have e0 : takeF n f pid page = (0, 2, f) := by unfold takeF; rw [hb]; rfl
    rw [e0]; clear e0
    rcases mayB_false hb with h | ⟨h1, h2⟩ | ⟨h1, h2, h3⟩ | ⟨h1, h2, h3, h4⟩
    all_goals
      clear hb
      go_enter Try.func10, Try.ntmps10
      go_wp2
      go_ret2
      exact ⟨rfl, s, only_refl _ _⟩
  | true =>
    obtain ⟨h1, h2, h3, h4⟩ := mayB_true hb
    rcases leastI_cases n f with ⟨k, hk, hl, hz, _⟩ | ⟨hl, _⟩
    · have e0 : takeF n f pid page = ((k : Int), 0, updS f k (pid, page)) := by unfold takeF; rw [hb, hl, if_neg (by simp), if_neg (by omega)]; simp
      have E0 := Lib.hid e0
      have HL := Lib.hid hl
      clear e0 hl hb hz
      go_enter Try.func10, Try.ntmps10
      go_wp2_with fail
      refine (index_any s).mono ?_
      rintro e w1 ⟨rfl, b1⟩
      rw [HL.out]
      have t := s.below b1
      have t0 := t.s0
      have c1 := t.own.fst hk
      have c2 := t.own.snd hk
      have f1 := t.own.frozen (by omega) (k * 2)
      have f2 := t.own.frozen (by omega) (k * 2 + 1)
      clear s0 s1
      go_wp2_with fail
      go_ret2
      rw [E0.out]
      exact ⟨rfl, t.set hk (pid, page) ⟨by omega, by omega, by omega, by omega, by intro h; simp at h; omega⟩, only_trans (only_of_below b1 B) (only_set2 _ _ _ _ _ _)⟩
    · have e0 : takeF n f pid page = (0, 9, f) := by unfold takeF; rw [hb, hl, if_neg (by simp), if_pos (by omega)]
      have E0 := Lib.hid e0
      have HL := Lib.hid hl
      clear e0 hl hb
      go_enter Try.func10, Try.ntmps10
      go_wp2_with fail
      refine (index_any s).mono ?_
      rintro e w1 ⟨rfl, b1⟩
      rw [HL.out]
      go_wp2_with fail
      go_ret2
      rw [E0.out]
      exact ⟨rfl, s.below b1, only_of_below b1 B⟩

set_option maxHeartbeats 1000000 in
theorem free_any (s : SS w base S B n c f) (slot : Int) : Calls Try.prog 12 #[.pointer (some ⟨S, 0, none⟩), .int .i64 slot] w fun e w' =>
    e = .returned (.int .i64 (freeF n f slot).1) ∧ SS w' base S B n c (freeF n f slot).2 ∧ Only w w' B := by
  have s0 := s.s0
  have s1 := s.s1
  have hn := s.le
  have hc := s.lec
  cases hb : badI n slot with
  | true =>
    have e0 : freeF n f slot = (2, f) := by unfold freeF; rw [hb]; rfl
    rw [e0]; clear e0
    rcases badI_true hb with h | ⟨h1, h2⟩
    all_goals
      clear hb
      go_enter Try.func12, Try.ntmps12
      go_wp2
      go_ret
      exact ⟨rfl, s, only_refl _ _⟩
  | false =>
    obtain ⟨h1, h2⟩ := badI_false hb
    obtain ⟨k, rfl⟩ := Int.eq_ofNat_of_zero_le h1
    have hk : k < n := by omega
    have c1 := s.own.fst hk
    have c2 := s.own.snd hk
    have f1 := s.own.frozen (by omega) (k * 2)
    have f2 := s.own.frozen (by omega) (k * 2 + 1)
    by_cases h0 : (f k).1 = 0
    · have e0 : freeF n f k = (7, f) := by unfold freeF; rw [hb]; simp [h0]
      rw [e0]
      have h3 := (s.ok k).2.2.2.2 h0
      rw [h0] at c1
      rw [h3] at c2
      clear e0 h0 h3 hb
      go_enter Try.func12, Try.ntmps12
      go_wp2
      go_ret
      exact ⟨rfl, s, only_refl _ _⟩
    · have e0 : freeF n f k = (0, updS f k (0, 0)) := by unfold freeF; rw [hb]; simp [h0]
      rw [e0]
      have q : ((f k).1 == (0 : Int)) = false := beq_eq_false_iff_ne.2 h0
      clear e0 h0 hb
      go_enter Try.func12, Try.ntmps12
      go_wp2
      go_ret
      exact ⟨rfl, s.set hk (0, 0) (by simp), only_set2 _ _ _ _ _ _⟩

theorem ne_nilS (b n c : Nat) (W : World) : (binOp .eql 52 (.slice (some ⟨b, 0, none⟩) n c) (.slice none 0 0)).run Try.prog W = .ok (.bool false) W := by kernel_rfl
set_option maxHeartbeats 1000000 in
theorem clone_any (s : SS w base S B n c f) : Calls Try.prog 23 #[.slice (some ⟨B, 0, none⟩) n c] w fun e w' =>
    ∃ B' c', e = .returned (.slice (some ⟨B', 0, none⟩) n c') ∧ OwnAt w' w.heap.size 59 2 (some ⟨B', 0, none⟩) n c' B' (cellsP n f) ∧ Below w.heap.size w w' := by
  have hn := s.le
  have hc := s.lec
  obtain ⟨i0, hi, hz0, hz1, hz2⟩ := info_parts info59
  have hnil := ne_nilS B n c
  have hE : (w.alloc (.cells #[] 59)).ownsRow w.heap.size 59 2 (.slice (some ⟨w.heap.size, 0, none⟩) 0 0) 0 [] := own_empty w 59 2 (Nat.le_refl _)
  have hR : Rd (w.alloc (.cells #[] 59)) 2 (some ⟨B, 0, none⟩) n (cellsP n f) := s.own.rd.below (below_new _ _)
  have fin : ∀ (v : Value) (w1 : World), w1.ownsRow w.heap.size 59 2 v n (cellsP n f) → (w.alloc (.cells #[] 59)).grownBy w1 (some w.heap.size) → (¬ v = .slice none 0 0) →
      ∃ B' c', Ending.returned v = .returned (.slice (some ⟨B', 0, none⟩) n c') ∧ OwnAt w1 w.heap.size 59 2 (some ⟨B', 0, none⟩) n c' B' (cellsP n f) ∧ Below w.heap.size w w1 := by
    intro v w1 ho hg hv
    obtain ⟨a', c', g', rfl, oa⟩ := own_at ho
    cases a' with
    | none =>
      have h0 : n = 0 ∧ c' = 0 := by
        rcases ho.2 with ⟨h1, h2⟩ | ⟨_, _, _, h1, _⟩
        · cases h1; exact ⟨h2, rfl⟩
        · cases h1
      obtain ⟨rfl, rfl⟩ := h0
      exact absurd rfl hv
    | some ad =>
      obtain ⟨rfl, _⟩ := oa.blk ad rfl
      exact ⟨g', c', rfl, oa, (below_new w _).grown hg (by simp) (fun k hk => by cases hk; exact Nat.le_refl _)⟩
  have FIN := Lib.hid fin; clear fin
  have HE := Lib.hid hE; clear hE
  have HR := Lib.hid hR; clear hR
  go_enter Try.func23, Try.ntmps23
  go_wp2_with (at_builtin; refine wpList_append_rd _ rfl (.tmp 5) (.tmp 6) 52 rfl w.heap.size 59 i0 _ 2 16 Try.underlying52 hi hz0 hz1 hz2 rfl (by omega) (.slice (some ⟨w.heap.size, 0, none⟩) 0 0) 0 [] rfl HE.out (some ⟨B, 0, none⟩) n c (cellsP n f) rfl HR.out (cellsP_one n f) (by unfold maxLen; omega) (by omega) (by simp) ?_)
  intro v1 w1 hown hgrow hat hv
  have F := Lib.hid (FIN.out v1 w1 hown hgrow hv)
  clear hown hgrow hat hv hnil
  go_wp2
  go_ret
  exact F.out

theorem copy_any (s : SS w base S B n c f) : Calls Try.prog 18 #[.pointer (some ⟨S, 0, none⟩)] w fun e w' =>
    ∃ S' B' c', e = .returned (.pointer (some ⟨S', 0, none⟩)) ∧ w.heap.size ≤ S' ∧ SS w' w.heap.size S' B' n c' f ∧ Below w.heap.size w w' := by
  have s0 := s.s0
  have s1 := s.s1
  have hn := s.le
  have hc := s.lec
  go_enter Try.func18, Try.ntmps18
  go_wp2_with fail
  refine (clone_any s).mono ?_
  rintro e w1 ⟨B', c', rfl, oa, b1⟩
  go_wp2_with fail
  go_ret
  have h := World.rowIs_alloc w1 #[.slice (some ⟨B', 0, none⟩) n c', .bool true] 54 (slotsF n c' B') (fun i hi => by
      rcases (show i = 0 ∨ i = 1 by simp at hi; omega) with rfl | rfl <;> rfl)
  exact ⟨_, _, _, rfl, b1.size, ⟨h, oa.below (below_new _ _), hn, s.ok⟩, below_alloc b1 _⟩
end
end Go.Proofs.Ytljgpiljfigojaa
