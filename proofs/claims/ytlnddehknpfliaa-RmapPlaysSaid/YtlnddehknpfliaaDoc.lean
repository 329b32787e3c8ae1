/-
  The document's map in memory, and the walks of its methods.
-/
import Derived.Test.YtlnddehknpfliaaIter
import Derived.Laws.StructEq
namespace Go.Proofs.Ytlnddehknpfliaa
open Go.RowKit

theorem eq46 (a b c d : Int) (w : World) : (Op.equalIn 10000 46 (.agg #[.int .i64 a, .int .i64 b]) (.agg #[.int .i64 c, .int .i64 d])).run Try.prog w = .ok (a == c && b == d) w := by
  have u3 := Try.underlying3
  have hS : Try.prog.underlying 46 = some (.struct (Try.prog.fieldsOf 46)) := by kernel_rfl
  have hp : Try.prog.stoodInHeld 46 = false := by kernel_rfl
  rw [show (10000 : Nat) = 9999 + 1 from rfl, run_equalIn_agg w 9999 46 _ _ hS hp]
  simp only [Program.fieldsOf, Try.underlying46]
  go_simp
  by_cases h1 : a = c <;> by_cases h2 : b = d <;> simp [h1, h2]
theorem eq49 (a b c d : Int) (w : World) : (Op.equalIn 10000 49 (.agg #[.int .i64 a, .int .i64 b]) (.agg #[.int .i64 c, .int .i64 d])).run Try.prog w = .ok (a == c && b == d) w := by
  have u3 := Try.underlying3
  rw [show (10000 : Nat) = 9999 + 1 from rfl, Op.equalIn]
  simp only [Sem.run_bind, run_underlying Try.underlying49, Result.andThen_ok]
  simp only [Std.Legacy.Range.forIn_eq_forIn_range', Std.Legacy.Range.size, Nat.sub_zero, Nat.add_sub_cancel, Nat.div_one, List.range'_succ, List.range'_zero, List.forIn_cons, List.forIn_nil]
  go_simp
  by_cases h1 : a = c <;> by_cases h2 : b = d <;> simp [h1, h2]

/-- The document's n frames at R, their pages at X. -/
structure DS (w : World) (base R X n : Nat) (f : Fr) : Prop where
  row : w.rowIs R 43 1 (fun _ => .slice (some ⟨X, 0, none⟩) n n)
  own : OwnAt w base 46 2 (some ⟨X, 0, none⟩) n n X (cellsP n f)
  le : n ≤ 1024
  ok : OkF n f
section
variable {w w' : World} {base R X n : Nat} {f : Fr}
theorem DS.r0 (s : DS w base R X n f) : w.cell? ⟨R, 0, none⟩ = some (.slice (some ⟨X, 0, none⟩) n n) := s.row.cell (i := 0) (by omega)
theorem DS.ltX (s : DS w base R X n f) : base ≤ X ∧ X < w.heap.size := (s.own.blk _ rfl).2
theorem DS.ne (s : DS w base R X n f) : X ≠ R := s.own.ne s.row (by decide) (by simp)
theorem DS.of_blocks (s : DS w base R X n f) (hs : w.heap.size ≤ w'.heap.size) (h1 : w'.heap[R]? = w.heap[R]?) (h2 : w'.heap[X]? = w.heap[X]?) : DS w' base R X n f := ⟨s.row.of_block h1, s.own.of_block hs (fun _ => h2), s.le, s.ok⟩
theorem DS.below (s : DS w base R X n f) (k : Below w.heap.size w w') : DS w' base R X n f := s.of_blocks k.size (k.block R s.row.lt) (k.block X s.ltX.2)
theorem DS.only (s : DS w base R X n f) {d : Nat} (k : Only w w' d) (h1 : R ≠ d) (h2 : X ≠ d) : DS w' base R X n f := s.of_blocks k.size (k.block R s.row.lt (fun e => h1 (by cases e; rfl))) (k.block X s.ltX.2 (fun e => h2 (by cases e; rfl)))
theorem DS.two (s : DS w base R X n f) {F b : Nat} (k : Two w w' F b) (h : R ≠ F ∧ R ≠ b ∧ X ≠ F ∧ X ≠ b) : DS w' base R X n f := s.of_blocks k.size (k.block R s.row.lt h.1 h.2.1) (k.block X s.ltX.2 h.2.2.1 h.2.2.2)
theorem DS.set (s : DS w base R X n f) {k : Nat} (hk : k < n) (v : Int × Int) (hv : OkF n (updF f k v)) :
    DS ((w.setCell ⟨X, k * 2, none⟩ (.int .i64 v.1)).setCell ⟨X, k * 2 + 1, none⟩ (.int .i64 v.2)) base R X n (updF f k v) :=
  ⟨(s.row.setOther (a := ⟨X, k * 2, none⟩) s.ne.symm _).setOther (a := ⟨X, k * 2 + 1, none⟩) s.ne.symm _, s.own.set2 hk v.1 v.2, s.le, hv⟩

theorem info46 : (Try.prog.info? 46).map (fun i => (i.zero, i.size, i.bytes)) = some (some (.agg #[.int .i64 0, .int .i64 0]), 2, 16) := by kernel_rfl
theorem info49 : (Try.prog.info? 49).map (fun i => (i.zero, i.size, i.bytes)) = some (some (.agg #[.int .i64 0, .int .i64 0]), 2, 16) := by kernel_rfl
theorem run_mk46 (n : Nat) (hn : n ≤ 1024) (W : World) : (Instr.makeSlice 41 (.int .i64 (n : Int)) (.int .i64 (n : Int))).run Try.prog W = .ok (.slice (some ⟨W.heap.size, 0, none⟩) n n) (W.alloc (.cells (madeCells #[.int .i64 0, .int .i64 0] (n * 2)) 46)) := by
  obtain ⟨i, hi, hz, hs, hb⟩ := info_parts info46
  have := run_make (P := Try.prog) W 41 46 i _ Try.underlying41 hi hz .i64 .i64 n n (by omega) (by omega) (by rw [hb]; omega) (by omega)
  rw [this, hs]
  simp only [Int.toNat_natCast]
  rfl
def newD (w : World) (m : Nat) : World := (w.alloc (.cells (madeCells #[.int .i64 0, .int .i64 0] (m * 2)) 46)).alloc (.cells #[.slice (some ⟨w.heap.size, 0, none⟩) m m] 43)
theorem ds_new {w0 : World} (w : World) (hb : w0.heap.size ≤ w.heap.size) (n : Nat) (hn : n ≤ 1024) : DS (newD w n) w0.heap.size (w.heap.size + 1) w.heap.size n none0 where
  row := by
    have h := World.rowIs_alloc (w.alloc (.cells (madeCells #[.int .i64 0, .int .i64 0] (n * 2)) 46)) #[.slice (some ⟨w.heap.size, 0, none⟩) n n] 43 (fun _ => .slice (some ⟨w.heap.size, 0, none⟩) n n) (fun i hi => by
      obtain rfl : i = 0 := by simp at hi; omega
      rfl)
    simpa [newD] using h
  own := (own_pairs (w := w) hb (by unfold maxLen; omega) rfl rfl).below (below_new _ _)
  le := hn
  ok := okF_none n
theorem below_newD (w : World) (m : Nat) : Below w.heap.size w (newD w m) := below_alloc (below_new _ _) _
theorem doc_new (n : Int) (w : World) :
    Calls Try.prog 15 #[.int .i64 n] w fun e w' => e = .returned (.pointer (some ⟨w.heap.size + 1, 0, none⟩)) ∧ w' = newD w (clampN n) := by
  by_cases h0 : n < 0
  · have e0 : clampN n = 0 := by unfold clampN; rw [if_pos h0]
    rw [e0]; clear e0
    have hmk : ∀ W : World, (Instr.makeSlice 41 (.int .i64 0) (.int .i64 0)).run Try.prog W = .ok (.slice (some ⟨W.heap.size, 0, none⟩) 0 0) (W.alloc (.cells (madeCells #[.int .i64 0, .int .i64 0] (0 * 2)) 46)) := run_mk46 0 (by omega)
    go_enter Try.func15, Try.ntmps15
    go_wp2
    go_ret
    exact ⟨rfl, rfl⟩
  · by_cases h1 : 1024 < n
    · have e0 : clampN n = 1024 := by unfold clampN; rw [if_neg h0, if_pos h1]
      rw [e0]; clear e0
      have hmk : ∀ W : World, (Instr.makeSlice 41 (.int .i64 1024) (.int .i64 1024)).run Try.prog W = .ok (.slice (some ⟨W.heap.size, 0, none⟩) 1024 1024) (W.alloc (.cells (madeCells #[.int .i64 0, .int .i64 0] (1024 * 2)) 46)) := run_mk46 1024 (by omega)
      go_enter Try.func15, Try.ntmps15
      go_wp2
      go_ret
      exact ⟨rfl, rfl⟩
    · obtain ⟨k, rfl⟩ := Int.eq_ofNat_of_zero_le (by omega : 0 ≤ n)
      have e0 : clampN k = k := by unfold clampN; rw [if_neg h0, if_neg h1]; simp
      rw [e0]; clear e0
      have hmk := run_mk46 k (by omega)
      go_enter Try.func15, Try.ntmps15
      go_wp2
      go_ret
      exact ⟨rfl, rfl⟩
theorem may_any (pid page : Int) (w : World) : Calls Try.prog 22 #[.int .i64 pid, .int .i64 page] w fun e w' => e = .returned (.bool (mayB (pid, page))) ∧ w = w' := by
  cases hb : mayB (pid, page) with
  | true =>
    obtain ⟨h1, h2, h3, h4⟩ := mayB_true hb
    clear hb
    go_enter Try.func22, Try.ntmps22
    go_wp2
    go_ret
    exact ⟨rfl, rfl⟩
  | false =>
    have hd : 1024 ≤ page → decide (page ≤ 1023) = false := fun h => by simp; omega
    have HD := Lib.hid hd
    clear hd
    rcases mayB_false hb with h | ⟨h1, h2⟩ | ⟨h1, h2, h3⟩ | ⟨h1, h2, h3, h4⟩
    case inr.inr.inr =>
      have q := HD.out h4
      clear hb
      go_enter Try.func22, Try.ntmps22
      go_wp2
      go_ret
      exact ⟨rfl, rfl⟩
    all_goals
      clear hb
      go_enter Try.func22, Try.ntmps22
      go_wp2
      go_ret
      exact ⟨rfl, rfl⟩
/-- A frame's number; -1: none. -/
def numO (o : Option Nat) : Int := match o with | some k => (k : Int) | none => -1
theorem findO_of {n k : Nat} {f : Fr} (o : OkF n f) {p : Pg} (hk : k < n) (hp : f k = p) (h0 : p.1 ≠ 0) : findO n f p = some k := by
  subst hp; exact findO_at o hk h0
theorem findO_no {n : Nat} {f : Fr} (o : OkF n f) {p : Pg} (h : ∀ j, j < n → f j = p → ¬ 0 < p.1) : findO n f p = none := by
  cases hf : findO n f p with
  | none => rfl
  | some k =>
    obtain ⟨h1, h2, h3⟩ := findO_some hf
    rcases o.may k h1 with h4 | h4
    · rw [h4] at h2; rw [← h2] at h3; exact absurd rfl h3
    · rw [h2] at h4
      have := mayB_true h4
      exact absurd (by omega) (h k h1 h2)
set_option maxHeartbeats 1000000 in
theorem find_any (s : DS w base R X n f) (pid page : Int) : Calls Try.prog 23 #[.pointer (some ⟨R, 0, none⟩), .int .i64 pid, .int .i64 page] w fun e w' =>
    e = .returned (.int .i64 (numO (findO n f (pid, page)))) ∧ w = w' := by
  have r0 := s.r0
  have hn := s.le
  have he := eq46
  go_enter Try.func23, Try.ntmps23
  go_wp2_with fail
  go_loop [7] (fun i => ∃ k : Nat, k ≤ n ∧ i = .int .i64 k ∧ ∀ j, j < k → f j = (pid, page) → ¬ 0 < pid) (fun i => n - (intOf i).toNat)
  case atStart => exact ⟨0, Nat.zero_le _, rfl, fun j hj => absurd hj (Nat.not_lt_zero j)⟩
  case round =>
    obtain ⟨k, hk, rfl, hne⟩ := hrel
    have Hne := Lib.hid hne; clear hne
    by_cases hlt : k < n
    · have c1 := s.own.fst hlt
      have c2 := s.own.snd hlt
      by_cases h1 : (f k).1 = pid
      · have q1 : ((f k).1 == pid) = true := by rw [h1]; simp
        by_cases h2 : (f k).2 = page
        · have q2 : ((f k).2 == page) = true := by rw [h2]; simp
          have hfk : f k = (pid, page) := Prod.ext h1 h2
          by_cases h0 : 0 < pid
          · have E := Lib.hid (show numO (findO n f (pid, page)) = (k : Int) by rw [findO_of s.ok hlt hfk (by simp; omega)]; rfl)
            clear h1 h2 hfk
            go_wp2
            go_ret
            rw [E.out]
            exact ⟨rfl, rfl⟩
          · have q3 : decide (0 < pid) = false := by simp; omega
            have H0 := Lib.hid h0
            clear h1 h2 hfk h0
            go_wp2
            go_round
            case rel => exact ⟨k + 1, by omega, by go_num, fun _ _ _ => H0.out⟩
            case measure => simp [intOf]; omega
        · have q2 : ((f k).2 == page) = false := beq_eq_false_iff_ne.2 h2
          have H := Lib.hid (fun e => h2 (congrArg Prod.snd e) : ¬ f k = (pid, page))
          clear h1 h2
          go_wp2
          go_round
          case rel => exact ⟨k + 1, by omega, by go_num, fun j hj e => by
            rcases Nat.lt_or_ge j k with h | h
            · exact Hne.out j h e
            · obtain rfl : j = k := by omega
              exact absurd e H.out⟩
          case measure => simp [intOf]; omega
      · have q1 : ((f k).1 == pid) = false := beq_eq_false_iff_ne.2 h1
        have H := Lib.hid (fun e => h1 (congrArg Prod.fst e) : ¬ f k = (pid, page))
        clear h1
        go_wp2
        go_round
        case rel => exact ⟨k + 1, by omega, by go_num, fun j hj e => by
          rcases Nat.lt_or_ge j k with h | h
          · exact Hne.out j h e
          · obtain rfl : j = k := by omega
            exact absurd e H.out⟩
        case measure => simp [intOf]; omega
    · have hkn : k = n := by omega
      have E := Lib.hid (show numO (findO n f (pid, page)) = -1 by rw [findO_no s.ok (by intro j hj e; exact Hne.out j (by omega) e)]; rfl)
      subst hkn
      go_wp2
      go_ret
      rw [E.out]
      exact ⟨rfl, rfl⟩
end
section
variable {w w' : World} {base R X n : Nat} {f : Fr}
theorem only_set2 (w : World) (X i j : Nat) (u v : Value) : Only w ((w.setCell ⟨X, i, none⟩ u).setCell ⟨X, j, none⟩ v) X := only_set (only_set (only_refl w X) i u) j v
set_option maxHeartbeats 1000000 in
theorem doc_set (s : DS w base R X n f) (fr pid page : Int) : Calls Try.prog 16 #[.pointer (some ⟨R, 0, none⟩), .int .i64 fr, .int .i64 pid, .int .i64 page] w fun e w' =>
    e = .returned (.int .i64 (setF n f fr (pid, page)).1) ∧ DS w' base R X n (setF n f fr (pid, page)).2 ∧ Only w w' X := by
  have r0 := s.r0
  have hn := s.le
  cases hb : badI n fr with
  | true =>
    have e0 : setF n f fr (pid, page) = (2, f) := by unfold setF; rw [hb]; rfl
    rw [e0]; clear e0
    rcases badI_true hb with h | ⟨h1, h2⟩
    all_goals
      clear hb
      go_enter Try.func16, Try.ntmps16
      go_wp2
      go_ret
      exact ⟨rfl, s, only_refl _ _⟩
  | false =>
    obtain ⟨h1, h2⟩ := badI_false hb
    obtain ⟨k, rfl⟩ := Int.eq_ofNat_of_zero_le h1
    have hk : k < n := by omega
    cases hm : mayB (pid, page) with
    | false =>
      have e0 : setF n f k (pid, page) = (2, f) := by unfold setF; rw [hb, hm]; rfl
      rw [e0]; clear e0
      have HM := Lib.hid hm
      clear hb hm
      go_enter Try.func16, Try.ntmps16
      go_wp2_with (go_at_call 22; refine (may_any pid page _).mono ?_; rintro e w' ⟨rfl, rfl⟩; rw [HM.out])
      go_ret
      exact ⟨rfl, s, only_refl _ _⟩
    | true =>
      have c1 := s.own.fst hk
      by_cases h0 : (f k).1 = 0
      · have q : ((f k).1 != (0 : Int)) = false := by rw [h0]; rfl
        cases hf : findO n f (pid, page) with
        | some j =>
          have E0 := Lib.hid (setF_twice hm hk h0 hf)
          have HM := Lib.hid hm
          have HF := Lib.hid (show numO (findO n f (pid, page)) = (j : Int) by rw [hf]; rfl)
          clear hb hm h0 hf
          go_enter Try.func16, Try.ntmps16
          go_wp2_with (first
            | (go_at_call 22; refine (may_any pid page _).mono ?_; rintro e w' ⟨rfl, rfl⟩; rw [HM.out])
            | (go_at_call 23; refine (find_any s pid page).mono ?_; rintro e w' ⟨rfl, rfl⟩; rw [HF.out]))
          go_ret
          rw [E0.out]
          exact ⟨rfl, s, only_refl _ _⟩
        | none =>
          have E0 := Lib.hid (setF_at hm hk h0 hf)
          have HM := Lib.hid hm
          have HF := Lib.hid (show numO (findO n f (pid, page)) = -1 by rw [hf]; rfl)
          have HS := Lib.hid (s.set hk (pid, page) (okF_set s.ok hk hm hf))
          have f1 := s.own.frozen (by omega) (k * 2)
          have f2 := s.own.frozen (by omega) (k * 2 + 1)
          have c2 := s.own.snd hk
          clear hb hm h0 hf
          go_enter Try.func16, Try.ntmps16
          go_wp2_with (first
            | (go_at_call 22; refine (may_any pid page _).mono ?_; rintro e w' ⟨rfl, rfl⟩; rw [HM.out])
            | (go_at_call 23; refine (find_any s pid page).mono ?_; rintro e w' ⟨rfl, rfl⟩; rw [HF.out]))
          go_ret
          rw [E0.out]
          exact ⟨rfl, HS.out, only_set2 _ _ _ _ _ _⟩
      · have q : ((f k).1 != (0 : Int)) = true := by rw [bne_iff_ne]; exact h0
        have E0 := Lib.hid (setF_busy hm hk h0)
        have HM := Lib.hid hm
        clear hb hm h0
        go_enter Try.func16, Try.ntmps16
        go_wp2_with (go_at_call 22; refine (may_any pid page _).mono ?_; rintro e w' ⟨rfl, rfl⟩; rw [HM.out])
        go_ret
        rw [E0.out]
        exact ⟨rfl, s, only_refl _ _⟩
set_option maxHeartbeats 1000000 in
theorem doc_clear (s : DS w base R X n f) (fr : Int) : Calls Try.prog 17 #[.pointer (some ⟨R, 0, none⟩), .int .i64 fr] w fun e w' =>
    e = .returned (.int .i64 (clearF n f fr).1) ∧ DS w' base R X n (clearF n f fr).2 ∧ Only w w' X := by
  have r0 := s.r0
  have hn := s.le
  cases hb : badI n fr with
  | true =>
    have e0 : clearF n f fr = (2, f) := by unfold clearF; rw [hb]; rfl
    rw [e0]; clear e0
    rcases badI_true hb with h | ⟨h1, h2⟩
    all_goals
      clear hb
      go_enter Try.func17, Try.ntmps17
      go_wp2
      go_ret
      exact ⟨rfl, s, only_refl _ _⟩
  | false =>
    obtain ⟨h1, h2⟩ := badI_false hb
    obtain ⟨k, rfl⟩ := Int.eq_ofNat_of_zero_le h1
    have hk : k < n := by omega
    have c1 := s.own.fst hk
    have c2 := s.own.snd hk
    have f1 := s.own.frozen (by omega) (k * 2)
    have f2 := s.own.frozen (by omega) (k * 2 + 1)
    by_cases h0 : (f k).1 = 0
    · have e0 : clearF n f k = (7, f) := by unfold clearF; rw [hb]; simp [h0]
      rw [e0]
      have q : ((f k).1 == (0 : Int)) = true := by rw [h0]; rfl
      clear e0 h0 hb
      go_enter Try.func17, Try.ntmps17
      go_wp2
      go_ret
      exact ⟨rfl, s, only_refl _ _⟩
    · have e0 : clearF n f k = (0, updF f k (0, 0)) := by unfold clearF; rw [hb]; simp [h0]
      rw [e0]
      have q : ((f k).1 == (0 : Int)) = false := beq_eq_false_iff_ne.2 h0
      clear e0 h0 hb
      go_enter Try.func17, Try.ntmps17
      go_wp2
      go_ret
      exact ⟨rfl, s.set hk (0, 0) (okF_clear s.ok k), only_set2 _ _ _ _ _ _⟩

/-- Pages and frames, cell by cell. -/
def cellsL (L : List (Nat × Nat)) : List Value := L.flatMap fun x => [.int .i64 (x.1 : Int), .int .i64 (x.2 : Int)]
theorem cellsL_snoc (L : List (Nat × Nat)) (x : Nat × Nat) : cellsL (L ++ [x]) = cellsL L ++ [.int .i64 (x.1 : Int), .int .i64 (x.2 : Int)] := by simp [cellsL]
theorem cellsL_at : ∀ (L : List (Nat × Nat)) (i : Nat) (x : Nat × Nat), L[i]? = some x → (cellsL L)[i * 2]? = some (.int .i64 (x.1 : Int)) ∧ (cellsL L)[i * 2 + 1]? = some (.int .i64 (x.2 : Int))
  | [], i, x, h => by simp at h
  | y :: r, 0, x, h => by
    simp at h; subst h
    simp [cellsL]
  | y :: r, i + 1, x, h => by
    have := cellsL_at r i x (by simpa using h)
    have e : cellsL (y :: r) = [.int .i64 (y.1 : Int), .int .i64 (y.2 : Int)] ++ cellsL r := by simp [cellsL]
    rw [e, show (i + 1) * 2 = i * 2 + 2 by omega]
    simpa using this
theorem ofL_le (n : Nat) (f : Fr) (pid : Int) (m : Nat) : (ofL n f pid m).length ≤ m := by
  have := List.length_filterMap_le (fun (p : Nat) => (findO n f (pid, (p : Int))).map fun (k : Nat) => (p, k)) (List.range m)
  simpa [ofL] using this
set_option maxHeartbeats 1000000 in
set_option maxRecDepth 100000 in
theorem doc_of (s : DS w base R X n f) (pid : Int) : Calls Try.prog 19 #[.pointer (some ⟨R, 0, none⟩), .int .i64 pid] w fun e w' =>
    ∃ a c g, e = .returned (.slice a (ofL n f pid 1024).length c) ∧ OwnAt w' w.heap.size 49 2 a (ofL n f pid 1024).length c g (cellsL (ofL n f pid 1024)) ∧ Below w.heap.size w w' := by
  have hn := s.le
  obtain ⟨i0, hi, hz0, hz1, hz2⟩ := info_parts info49
  go_enter Try.func19, Try.ntmps19
  go_wp2_with fail
  go_loopw [5, 6] (fun v i wr => ∃ k : Nat, k ≤ 1024 ∧ i = .int .i64 k ∧ (∃ a c, v = .slice a (ofL n f pid k).length c) ∧ wr.ownsRow w.heap.size 49 2 v (ofL n f pid k).length (cellsL (ofL n f pid k)) ∧ Below w.heap.size w wr) (fun _ i _ => 1024 - (intOf i).toNat)
  case atStart => exact ⟨0, Nat.zero_le _, rfl, ⟨none, 0, rfl⟩, by exact World.ownsRow_nil _ _ _ _, Below.refl _ _⟩
  case round =>
    obtain ⟨k, hk, rfl, ⟨a1, c1, rfl⟩, hown, hb⟩ := hrel
    have t := s.below hb
    have hlen := ofL_le n f pid k
    have hsz := hb.size
    by_cases hlt : k < 1024
    · cases hf : findO n f (pid, (k : Int)) with
      | none =>
        have E1 := Lib.hid (ofL_out hf)
        have HF := Lib.hid (show numO (findO n f (pid, (k : Int))) = -1 by rw [hf]; rfl)
        clear hf
        go_wp2_with (go_at_call 23; refine (find_any t pid (k : Int)).mono ?_; rintro e w' ⟨rfl, rfl⟩; rw [HF.out])
        go_roundw
        case rel => exact ⟨k + 1, by omega, by go_num, ⟨a1, c1, by rw [E1.out]⟩, by rw [E1.out]; exact hown, hb⟩
        case measure => simp [intOf]; omega
      | some j =>
        have E1 := Lib.hid (ofL_in hf)
        have HF := Lib.hid (show numO (findO n f (pid, (k : Int))) = (j : Int) by rw [hf]; rfl)
        clear hf
        generalize hL : ofL n f pid k = L at *
        generalize hm : L.length = m at *
        have HM := Lib.hid hm
        have HL := Lib.hid hL
        clear hm hL
        have hrd := rd_new wr #[.int .i64 (k : Int), .int .i64 (j : Int)] 49 2 1 rfl
        have HR := Lib.hid hrd
        clear hrd
        go_wp2_with (first
          | (go_at_call 23; refine (find_any t pid (k : Int)).mono ?_; rintro e w' ⟨rfl, rfl⟩; rw [HF.out])
          | (at_builtin; refine wpList_append_rd _ rfl (.tmp 18) (.tmp 22) 47 rfl w.heap.size 49 i0 _ 2 16 Try.underlying47 hi hz0 hz1 hz2 rfl (by decide) _ m (cellsL L) rfl (hown.alloc _) (some ⟨wr.heap.size, 0, none⟩) 1 1 _ rfl HR.out (by simp [Value.oneCell']) (by unfold maxLen; omega) (by omega) (by simp; omega) ?_))
        intro v' w1 hown' hgrow _ _
        have hb1 : Below w.heap.size w w1 := (hb.alloc hsz _).grown hgrow (by simp; omega) (fun j hj => (hown.lt j hj).1)
        obtain ⟨a2, c2, g2, rfl, _⟩ := own_at hown'
        clear hgrow hown
        have HO := Lib.hid hown'
        clear hown'
        go_wp2_with fail
        go_roundw
        case rel => exact ⟨k + 1, by omega, by go_num, ⟨a2, c2, by rw [E1.out, List.length_append, HM.out]; rfl⟩, by rw [E1.out, cellsL_snoc, List.length_append, HM.out]; exact HO.out, hb1⟩
        case measure => simp [intOf]; omega
    · obtain rfl : k = 1024 := by omega
      obtain ⟨a2, c2, g2, hv, oa⟩ := own_at hown
      obtain ⟨rfl, -, rfl⟩ := Value.slice.inj hv
      have OA := Lib.hid (And.intro oa hb)
      clear hv oa hown
      go_wp2_with fail
      go_ret
      exact ⟨_, _, g2, rfl, OA.out.1, OA.out.2⟩
end
end Go.Proofs.Ytlnddehknpfliaa
