/-
  The map of frames in memory, and the walks of New, has, Set, Clear, Frames, Get.
-/
import Derived.Test.YtlnddehknpfliaaRows
import Derived.Test.YtlnddehknpfliaaPlain
import Derived.Test.YtlnddehknpfliaaPairs
import Derived.Test.YtlnddehknpfliaaMaps
import Derived.DeepKeys4
import Derived.StillTailTactics
import Derived.Deep.RegionHeld3
namespace Go.Proofs.Ytlnddehknpfliaa
open Go.RowKit

/-! The keys: pages. -/
def encP (p : Pg) : Value := .agg #[.int .i64 p.1, .int .i64 p.2]
def kdP (p : Pg) : Prop := (Lit.int .i64 p.1).wf = true ∧ (Lit.int .i64 p.2).wf = true
theorem wide57 : (match Try.prog.underlying 57 with | some (.array _ _) | some (.struct _) => true | _ => false) = true := by rw [Try.underlying57]
theorem row57 : (57 : TypeId) < Try.prog.types.size := of_decide_eq_true (by kernel_rfl)
theorem encP_inj (x y : Pg) (h : encP x = encP y) : x = y := by
  unfold encP at h; cases x; cases y; simp at h; rw [h.1, h.2]
theorem readP (p : Pg) (h : kdP p) : ∃ l, keyOf Try.prog 57 (encP p) = some l := by
  have hu := Try.underlying57
  have h3 : Try.prog.underlying 3 = some (.int .i64) := by kernel_rfl
  have c3 : Try.prog.cellsOf 3 = 1 := by kernel_rfl
  have c57 : Try.prog.cellsOf 57 = 2 := by kernel_rfl
  have hk : Try.prog.keyType 57 = true := by kernel_rfl
  have hn : (57 : Nat) < Try.prog.types.size := row57
  obtain ⟨d, hd⟩ : ∃ d, Try.prog.types.size + 1 = d + 2 := ⟨Try.prog.types.size - 1, by omega⟩
  have hf : (encP p).formed Try.prog 57 = true := by simp [encP, Value.formed, hu, c57]
  have hl3 : ∀ i : Int, (Lit.int .i64 i).wf = true → Try.prog.keyLits (d + 1) 3 [.int .i64 i] = some [.int .i64 i] := fun i hi => by
    simp [Program.keyLits, h3, hi]
  have hl : Try.prog.keyLits (d + 2) 57 [.int .i64 p.1, .int .i64 p.2] = some [.int .i64 p.1, .int .i64 p.2] := by
    simp [Program.keyLits, hu, c57, c3, hl3, h.1, h.2]
  unfold keyOf
  rw [hu, hk, hf, hd]
  exact ⟨_, by simp only [encP, Value.cells, Bool.and_self, if_true]; rw [hl]; rfl⟩
theorem laidR : laidOutB Try.prog = true := by kernel_rfl
theorem KP : KeyEnc Try.prog 57 encP kdP := ⟨Go.Maps.Keyed.of_law (Go.deep_law_laid laidR (m := 2) (by omega) row57 (by kernel_rfl) wide57), readP, encP_inj⟩

/-! The map of frames. -/
def mapM (n : Nat) (f : Fr) : Pg → Option Value := fun p => (findO n f p).map fun (k : Nat) => Value.int .i64 (k : Int)
def topF (n c F b : Nat) (i : Nat) : Value := if i = 0 then .slice (some ⟨F, 0, none⟩) n c else .map (some b)
/-- n frames at D, whose each is at F, those of pages at b. -/
structure TT (w : World) (base D F b n c : Nat) (f : Fr) : Prop where
  srow : w.rowIs D 54 2 (topF n c F b)
  own : OwnAt w base 57 2 (some ⟨F, 0, none⟩) n c F (cellsP n f)
  map : MapAt encP kdP w b (mapM n f)
  mb : base ≤ b
  le : n ≤ 1024
  ok : OkF n f
/-- New blocks; F and b may have turned. -/
structure Two (w w' : World) (F b : Nat) : Prop where
  os : w'.os = w.os
  tape : w'.tape = w.tape
  output : w'.output = w.output
  size : w.heap.size ≤ w'.heap.size
  block : ∀ i, i < w.heap.size → i ≠ F → i ≠ b → w'.heap[i]? = w.heap[i]?
theorem two_refl (w : World) (F b : Nat) : Two w w F b := ⟨rfl, rfl, rfl, Nat.le_refl _, fun _ _ _ _ => rfl⟩
theorem two_trans {a w w' : World} {F b : Nat} (h : Two a w F b) (k : Two w w' F b) : Two a w' F b :=
  ⟨k.os.trans h.os, k.tape.trans h.tape, k.output.trans h.output, Nat.le_trans h.size k.size, fun i hi h1 h2 => (k.block i (Nat.lt_of_lt_of_le hi h.size) h1 h2).trans (h.block i hi h1 h2)⟩
theorem two_onlyF {w w' : World} {F : Nat} (k : Only w w' F) (b : Nat) : Two w w' F b := ⟨k.os, k.tape, k.output, k.size, fun i hi h1 _ => k.block i hi (fun e => h1 (by cases e; rfl))⟩
theorem two_onlyb {w w' : World} {b : Nat} (k : Only w w' b) (F : Nat) : Two w w' F b := ⟨k.os, k.tape, k.output, k.size, fun i hi _ h1 => k.block i hi (fun e => h1 (by cases e; rfl))⟩
theorem two_below {w w' : World} (k : Below w.heap.size w w') (F b : Nat) : Two w w' F b := ⟨k.os, k.tape, k.output, k.size, fun i hi _ _ => k.block i hi⟩
theorem below_two {w0 w w' : World} {F b : Nat} (h : Below w0.heap.size w0 w) (k : Two w w' F b) (hF : w0.heap.size ≤ F) (hb : w0.heap.size ≤ b) : Below w0.heap.size w0 w' :=
  ⟨k.os.trans h.os, k.tape.trans h.tape, k.output.trans h.output, Nat.le_trans h.size k.size, fun i hi => (k.block i (Nat.lt_of_lt_of_le hi h.size) (by omega) (by omega)).trans (h.block i hi)⟩
section
variable {w w' : World} {base D F b n c : Nat} {f : Fr}
theorem TT.s0 (s : TT w base D F b n c f) : w.cell? ⟨D, 0, none⟩ = some (.slice (some ⟨F, 0, none⟩) n c) := s.srow.cell (i := 0) (by omega)
theorem TT.s1 (s : TT w base D F b n c f) : w.cell? ⟨D, 1, none⟩ = some (.map (some b)) := s.srow.cell (i := 1) (by omega)
theorem TT.ltF (s : TT w base D F b n c f) : base ≤ F ∧ F < w.heap.size := (s.own.blk _ rfl).2
theorem TT.ltb (s : TT w base D F b n c f) : base ≤ b ∧ b < w.heap.size := ⟨s.mb, s.map.lt⟩
theorem TT.neF (s : TT w base D F b n c f) : F ≠ D := s.own.ne s.srow (by decide) (by simp)
theorem TT.neb (s : TT w base D F b n c f) : b ≠ D := s.map.ne_row s.srow
theorem TT.nebF (s : TT w base D F b n c f) : b ≠ F := s.map.ne_own s.own (by simp)
theorem TT.lec (s : TT w base D F b n c f) : n ≤ c ∧ c ≤ 9223372036854775807 := by have := s.own.le; unfold maxLen at this; omega
theorem TT.of_blocks (s : TT w base D F b n c f) (hs : w.heap.size ≤ w'.heap.size) (h1 : w'.heap[D]? = w.heap[D]?) (h2 : w'.heap[F]? = w.heap[F]?) (h3 : w'.heap[b]? = w.heap[b]?) : TT w' base D F b n c f :=
  ⟨s.srow.of_block h1, s.own.of_block hs (fun _ => h2), s.map.of_block h3, s.mb, s.le, s.ok⟩
theorem TT.below (s : TT w base D F b n c f) (k : Below w.heap.size w w') : TT w' base D F b n c f := s.of_blocks k.size (k.block D s.srow.lt) (k.block F s.ltF.2) (k.block b s.ltb.2)
theorem TT.two (s : TT w base D F b n c f) {G d : Nat} (k : Two w w' G d) (h : D ≠ G ∧ D ≠ d ∧ F ≠ G ∧ F ≠ d ∧ b ≠ G ∧ b ≠ d) : TT w' base D F b n c f :=
  s.of_blocks k.size (k.block D s.srow.lt h.1 h.2.1) (k.block F s.ltF.2 h.2.2.1 h.2.2.2.1) (k.block b s.ltb.2 h.2.2.2.2.1 h.2.2.2.2.2)
theorem TT.look (s : TT w base D F b n c f) {p : Pg} (hp : kdP p) (W : World) (hW : W.heap = w.heap) : 
    (Instr.lookup 52 (.map (some b)) (.agg #[.int .i64 p.1, .int .i64 p.2]) true).run Try.prog W = .ok (.tuple #[((findO n f p).map fun (k : Nat) => Value.int .i64 (k : Int)).getD (.int .i64 0), .bool (findO n f p).isSome]) W := by
  have := (s.map.of_block (w' := W) (by rw [hW])).look KP (t := 52) (e := 3) Try.underlying52 (z := .int .i64 0) (fun W => by kernel_rfl) hp true
  rw [encP] at this
  rw [this]
  simp [mapM]
end
theorem wf64 {i : Int} (h1 : -9223372036854775808 ≤ i) (h2 : i ≤ 9223372036854775807) : (Lit.int .i64 i).wf = true := by
  have e1 : IntKind.i64.min = -9223372036854775808 := by decide
  have e2 : IntKind.i64.max = 9223372036854775807 := by decide
  show (decide (IntKind.i64.min ≤ i) && decide (i ≤ IntKind.i64.max)) = true
  rw [e1, e2]
  simp; omega
theorem kdP_may {p : Pg} (h : mayB p = true) : kdP p := by
  have := mayB_true h
  exact ⟨wf64 (by omega) (by omega), wf64 (by omega) (by omega)⟩

def clampN (n : Int) : Nat := if n < 0 then 0 else if 1024 < n then 1024 else n.toNat
theorem clampN_le (n : Int) : clampN n ≤ 1024 := by unfold clampN; split <;> (try split) <;> omega
theorem clampN_nat {n : Nat} (h : n ≤ 1024) : clampN (n : Int) = n := by unfold clampN; rw [if_neg (by omega), if_neg (by omega)]; simp
theorem info57 : (Try.prog.info? 57).map (fun i => (i.zero, i.size, i.bytes)) = some (some (.agg #[.int .i64 0, .int .i64 0]), 2, 16) := by kernel_rfl
theorem run_mk (n : Nat) (hn : n ≤ 1024) (W : World) : (Instr.makeSlice 51 (.int .i64 (n : Int)) (.int .i64 (n : Int))).run Try.prog W = .ok (.slice (some ⟨W.heap.size, 0, none⟩) n n) (W.alloc (.cells (madeCells #[.int .i64 0, .int .i64 0] (n * 2)) 57)) := by
  obtain ⟨i, hi, hz, hs, hb⟩ := info_parts info57
  have := run_make (P := Try.prog) W 51 57 i _ Try.underlying51 hi hz .i64 .i64 n n (by omega) (by omega) (by rw [hb]; omega) (by omega)
  rw [this, hs]
  simp only [Int.toNat_natCast]
  rfl
def newW (w : World) (m : Nat) : World := ((w.alloc (.cells (madeCells #[.int .i64 0, .int .i64 0] (m * 2)) 57)).alloc (.map #[] 0)).alloc (.cells #[.slice (some ⟨w.heap.size, 0, none⟩) m m, .map (some (w.heap.size + 1))] 54)
theorem findO_none0 (n : Nat) (p : Pg) : findO n none0 p = none := by
  unfold findO none0
  rw [List.find?_eq_none]
  intro k _
  simp
  intro h; rw [← h]
theorem tt_new {w0 : World} (w : World) (hb : w0.heap.size ≤ w.heap.size) (n : Nat) (hn : n ≤ 1024) : TT (newW w n) w0.heap.size (w.heap.size + 2) w.heap.size (w.heap.size + 1) n n none0 where
  srow := by
    have h := World.rowIs_alloc ((w.alloc (.cells (madeCells #[.int .i64 0, .int .i64 0] (n * 2)) 57)).alloc (.map #[] 0)) #[.slice (some ⟨w.heap.size, 0, none⟩) n n, .map (some (w.heap.size + 1))] 54 (topF n n w.heap.size (w.heap.size + 1)) (fun i hi => by
      rcases (show i = 0 ∨ i = 1 by simp at hi; omega) with rfl | rfl <;> rfl)
    simpa [newW] using h
  own := ((own_pairs (w := w) hb (by unfold maxLen; omega) rfl rfl).below (below_new _ _)).below (below_new _ _)
  map := by
    have h := (map_new (enc := encP) (Kd := kdP) (w.alloc (.cells (madeCells #[.int .i64 0, .int .i64 0] (n * 2)) 57))).below (below_new _ (.cells #[.slice (some ⟨w.heap.size, 0, none⟩) n n, .map (some (w.heap.size + 1))] 54))
    have e : (w.alloc (.cells (madeCells #[.int .i64 0, .int .i64 0] (n * 2)) 57)).heap.size = w.heap.size + 1 := by simp
    rw [e] at h
    exact h.congr fun p => by unfold mapM; rw [findO_none0]; rfl
  mb := by omega
  le := hn
  ok := okF_none n
theorem below_newW (w : World) (m : Nat) : Below w.heap.size w (newW w m) := below_alloc (below_alloc (below_new _ _) _) _
theorem run_mm (W : World) : (Instr.makeMap 52 none).run Try.prog W = .ok (.map (some W.heap.size)) (W.alloc (.map #[] 0)) := @run_makeMap Try.prog _ _

theorem new_any (n : Int) (w : World) :
    Calls Try.prog 9 #[.int .i64 n] w fun e w' => e = .returned (.pointer (some ⟨w.heap.size + 2, 0, none⟩)) ∧ w' = newW w (clampN n) := by
  have hmm := run_mm
  by_cases h0 : n < 0
  · have e0 : clampN n = 0 := by unfold clampN; rw [if_pos h0]
    rw [e0]; clear e0
    have hmk : ∀ W : World, (Instr.makeSlice 51 (.int .i64 0) (.int .i64 0)).run Try.prog W = .ok (.slice (some ⟨W.heap.size, 0, none⟩) 0 0) (W.alloc (.cells (madeCells #[.int .i64 0, .int .i64 0] (0 * 2)) 57)) := run_mk 0 (by omega)
    go_enter Try.func9, Try.ntmps9
    go_wp2
    go_ret
    exact ⟨rfl, rfl⟩
  · by_cases h1 : 1024 < n
    · have e0 : clampN n = 1024 := by unfold clampN; rw [if_neg h0, if_pos h1]
      rw [e0]; clear e0
      have hmk : ∀ W : World, (Instr.makeSlice 51 (.int .i64 1024) (.int .i64 1024)).run Try.prog W = .ok (.slice (some ⟨W.heap.size, 0, none⟩) 1024 1024) (W.alloc (.cells (madeCells #[.int .i64 0, .int .i64 0] (1024 * 2)) 57)) := run_mk 1024 (by omega)
      go_enter Try.func9, Try.ntmps9
      go_wp2
      go_ret
      exact ⟨rfl, rfl⟩
    · obtain ⟨k, rfl⟩ := Int.eq_ofNat_of_zero_le (by omega : 0 ≤ n)
      have e0 : clampN k = k := by unfold clampN; rw [if_neg h0, if_neg h1]; simp
      rw [e0]; clear e0
      have hmk := run_mk k (by omega)
      go_enter Try.func9, Try.ntmps9
      go_wp2
      go_ret
      exact ⟨rfl, rfl⟩

section
variable {w w' : World} {base D F b n c : Nat} {f : Fr}
theorem frames_any (s : TT w base D F b n c f) : Calls Try.prog 12 #[.pointer (some ⟨D, 0, none⟩)] w fun e w' => e = .returned (.int .i64 n) ∧ w = w' := by
  have s0 := s.s0
  have hn := s.le
  clear s
  go_enter Try.func12, Try.ntmps12
  go_wp2
  go_ret
  exact ⟨rfl, rfl⟩

theorem map_neq (b : Nat) (W : World) : (binOp .eql 52 (.map (some b)) (.map none)).run Try.prog W = .ok (.bool false) W := by kernel_rfl
theorem has_any (s : TT w base D F b n c f) (i : Int) : Calls Try.prog 20 #[.pointer (some ⟨D, 0, none⟩), .int .i64 i] w fun e w' =>
    e = .returned (.int .i64 (if badI n i then 2 else 0)) ∧ w = w' := by
  have s0 := s.s0
  have s1 := s.s1
  have hn := s.le
  have hc := s.lec
  have hm := map_neq b
  clear s
  cases hb : badI n i with
  | true =>
    rw [if_pos rfl]
    rcases badI_true hb with h | ⟨h1, h2⟩
    all_goals
      clear hb
      go_enter Try.func20, Try.ntmps20
      go_wp2
      go_ret
      exact ⟨rfl, rfl⟩
  | false =>
    rw [if_neg (by decide)]
    obtain ⟨h1, h2⟩ := badI_false hb
    clear hb
    go_enter Try.func20, Try.ntmps20
    go_wp2
    go_ret
    exact ⟨rfl, rfl⟩

theorem get_any (s : TT w base D F b n c f) (i : Int) : Calls Try.prog 13 #[.pointer (some ⟨D, 0, none⟩), .int .i64 i] w fun e w' =>
    e = .returned (.tuple #[.int .i64 (getF n f i).1, .int .i64 (getF n f i).2, .bool ((getF n f i).1 != 0)]) ∧ Below w.heap.size w w' := by
  have s0 := s.s0
  have hn := s.le
  have hc := s.lec
  cases hb : badI n i with
  | true =>
    have e0 : getF n f i = (0, 0) := by unfold getF; rw [hb]; rfl
    rw [e0]; clear e0
    go_enter Try.func13, Try.ntmps13
    go_wp2_with (go_at_call 20; refine (has_any s i).mono ?_; rintro e w' ⟨rfl, rfl⟩; rw [hb, if_pos rfl])
    go_ret3
    exact ⟨rfl, Below.refl _ _⟩
  | false =>
    obtain ⟨h1, h2⟩ := badI_false hb
    obtain ⟨k, rfl⟩ := Int.eq_ofNat_of_zero_le h1
    have e0 : getF n f k = f k := by unfold getF; rw [hb]; rfl
    rw [e0]; clear e0
    have c1 := s.own.cell (cellsP_fst (f := f) (k := k) (n := n) (by omega))
    have c2 := s.own.cell (cellsP_snd (f := f) (k := k) (n := n) (by omega))
    go_enter Try.func13, Try.ntmps13
    go_wp2_with (go_at_call 20; refine (has_any s _).mono ?_; rintro e w' ⟨rfl, rfl⟩; rw [hb, if_neg (by decide)])
    go_quiet (fail)
    go_wp2
    go_ret3
    exact ⟨rfl, below_drewN (below_new _ _) _⟩
end
end Go.Proofs.Ytlnddehknpfliaa
