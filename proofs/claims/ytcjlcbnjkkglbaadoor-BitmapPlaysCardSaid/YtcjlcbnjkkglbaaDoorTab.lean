/-
  The set in memory, and the walks of New, Size, own, Has, Put, Take.
-/
import Derived.Test.YtcjlcbnjkkglbaaDoorRows
import Derived.Test.YtcjlcbnjkkglbaaDoorPlain
import Derived.Test.YtcjlcbnjkkglbaaDoorOwn
namespace Go.Proofs.YtcjlcbnjkkglbaaDoor
open Go.RowKit

/-- K words as cells. -/
def wordsL (K : Nat) (Wd : Nat → Nat) : List Value := (List.range K).map fun k => .int .u64 (Wd k)
theorem wordsL_get (K : Nat) (Wd : Nat → Nat) (i : Nat) : (wordsL K Wd)[i]? = if i < K then some (.int .u64 (Wd i)) else none := by
  unfold wordsL
  rw [List.getElem?_map]
  by_cases h : i < K
  · rw [List.getElem?_range h, if_pos h]; rfl
  · rw [List.getElem?_eq_none (by simpa using h), if_neg h]; rfl
theorem wordsL_set (K : Nat) (Wd : Nat → Nat) (k v : Nat) : (wordsL K Wd).set k (.int .u64 v) = wordsL K (fun j => if j = k then v else Wd j) := by
  apply List.ext_getElem?
  intro i
  rw [List.getElem?_set, wordsL_get, wordsL_get]
  have hl : (wordsL K Wd).length = K := by simp [wordsL]
  rw [hl]
  by_cases h : k = i
  · subst h; simp
  · rw [if_neg h]
    have h' : ¬ i = k := fun e => h e.symm
    simp [h']
theorem own_words {w : World} {base : Nat} (hb : base ≤ w.heap.size) {n : Nat} (hn : n ≤ maxLen) : OwnAt (w.alloc (.cells (madeCells #[.int .u64 0] (n * 1)) 51)) base 51 1 (some ⟨w.heap.size, 0, none⟩) n n w.heap.size (wordsL n fun _ => 0) := by
  have hl : (madeCells #[.int .u64 0] (n * 1)).size = n * 1 := size_madeCells _ _
  have h := World.ownsRow_lit (base := base) (e := 51) (size := 1) w (madeCells #[.int .u64 0] (n * 1)) n hb hn hl
  have hx : (madeCells #[.int .u64 0] (n * 1)).toList = wordsL n fun _ => 0 := by
    apply List.ext_getElem?
    intro i
    rw [wordsL_get, Array.getElem?_toList]
    unfold madeCells
    rw [Array.getElem?_map, Array.getElem?_range, Nat.mul_one]
    split
    · simp [Nat.mod_one]
    · rfl
  rw [hx] at h
  exact ⟨h, fun _ => rfl, fun b hb' => by cases hb'; exact ⟨rfl, hb, by simp⟩⟩

def setF (a : Option Addr) (K c N : Nat) (i : Nat) : Value := if i = 0 then .slice a K c else .int .i64 N
/-- How many words hold n numbers. -/
def wordsOf (N : Nat) : Nat := (N + 63) / 64
/-- A set of N numbers at D, its words at b. -/
structure BS (w : World) (base D : Nat) (a : Option Addr) (c b N : Nat) (Wd : Nat → Nat) : Prop where
  srow : w.rowIs D 46 2 (setF a (wordsOf N) c N)
  own : OwnAt w base 51 1 a (wordsOf N) c b (wordsL (wordsOf N) Wd)
  le : N ≤ 65536
  sm : Small Wd
section
variable {w w' : World} {base D c b N : Nat} {a : Option Addr} {Wd : Nat → Nat}
theorem BS.s0 (s : BS w base D a c b N Wd) : w.cell? ⟨D, 0, none⟩ = some (.slice a (wordsOf N) c) := s.srow.cell (i := 0) (by omega)
theorem BS.s1 (s : BS w base D a c b N Wd) : w.cell? ⟨D, 1, none⟩ = some (.int .i64 N) := s.srow.cell (i := 1) (by omega)
theorem BS.lec (s : BS w base D a c b N Wd) : wordsOf N ≤ c ∧ c ≤ 9223372036854775807 := by have := s.own.le; unfold maxLen at this; omega
theorem BS.below (s : BS w base D a c b N Wd) (k : Below w.heap.size w w') : BS w' base D a c b N Wd := ⟨rowIs_below s.srow k, s.own.below k, s.le, s.sm⟩
theorem BS.ne (s : BS w base D a c b N Wd) : a ≠ none → b ≠ D := s.own.ne s.srow (by decide)
theorem BS.word (s : BS w base D a c b N Wd) {k : Nat} (h : k < wordsOf N) : w.cell? ⟨b, k, none⟩ = some (.int .u64 (Wd k)) := s.own.cell (by rw [wordsL_get, if_pos h])
theorem BS.pos (s : BS w base D a c b N Wd) (h : 0 < N) : a = some ⟨b, 0, none⟩ := by
  exact s.own.at_ (by unfold wordsOf; omega)
theorem BS.put (s : BS w base D a c b N Wd) {k v : Nat} (h : k < wordsOf N) (hv : v < 18446744073709551616) : BS (w.setCell ⟨b, k, none⟩ (.int .u64 v)) base D a c b N (fun j => if j = k then v else Wd j) where
  srow := s.srow.setOther (a := ⟨b, k, none⟩) (s.ne (by rw [s.own.at_ (by omega)]; exact fun x => by cases x)).symm _
  own := by rw [← wordsL_set]; exact s.own.set (by omega) k _ (by omega)
  le := s.le
  sm := fun j => by show (if j = k then v else Wd j) < _; split; exact hv; exact s.sm j
end

def clampN (n : Int) : Nat := if n < 0 then 0 else if 65536 < n then 65536 else n.toNat
theorem clampN_le (n : Int) : clampN n ≤ 65536 := by unfold clampN; split <;> (try split) <;> omega
theorem info51 : (Tryd.prog.info? 51).map (fun i => (i.zero, i.size, i.bytes)) = some (some (.int .u64 0), 1, 8) := by kernel_rfl
theorem run_mk (n : Nat) (hn : n ≤ 1024) (W : World) : (Instr.makeSlice 44 (.int .i64 (n : Int)) (.int .i64 (n : Int))).run Tryd.prog W = .ok (.slice (some ⟨W.heap.size, 0, none⟩) n n) (W.alloc (.cells (madeCells #[.int .u64 0] (n * 1)) 51)) := by
  obtain ⟨i, hi, hz, hs, hb⟩ := info_parts info51
  have := run_make (P := Tryd.prog) W 44 51 i _ Tryd.underlying44 hi hz .i64 .i64 n n (by omega) (by omega) (by rw [hb]; omega) (by omega)
  rw [this, hs]
  simp only [Int.toNat_natCast]
  rfl
def newW (w : World) (m : Nat) : World := (w.alloc (.cells (madeCells #[.int .u64 0] (wordsOf m * 1)) 51)).alloc (.cells #[.slice (some ⟨w.heap.size, 0, none⟩) (wordsOf m) (wordsOf m), .int .i64 m] 46)
theorem bs_new {w0 : World} (w : World) (hb : w0.heap.size ≤ w.heap.size) (n : Nat) (hn : n ≤ 65536) : BS (newW w n) w0.heap.size (w.heap.size + 1) (some ⟨w.heap.size, 0, none⟩) (wordsOf n) w.heap.size n (fun _ => 0) where
  srow := by
    have h := World.rowIs_alloc (w.alloc (.cells (madeCells #[.int .u64 0] (wordsOf n * 1)) 51)) #[.slice (some ⟨w.heap.size, 0, none⟩) (wordsOf n) (wordsOf n), .int .i64 n] 46 (setF (some ⟨w.heap.size, 0, none⟩) (wordsOf n) (wordsOf n) n) (fun i hi => by
      rcases (show i = 0 ∨ i = 1 by simp at hi; omega) with rfl | rfl <;> rfl)
    simpa [newW] using h
  own := (own_words (w := w) hb (by unfold wordsOf maxLen; omega)).below (below_new _ _)
  le := hn
  sm := fun _ => by show 0 < _; decide
theorem below_newW (w : World) (m : Nat) : Below w.heap.size w (newW w m) := below_alloc (below_new _ _) _
theorem new_any (n : Int) (w : World) :
    Calls Tryd.prog 8 #[.int .i64 n] w fun e w' => e = .returned (.pointer (some ⟨w.heap.size + 1, 0, none⟩)) ∧ w' = newW w (clampN n) := by
  by_cases h0 : n < 0
  · have e0 : clampN n = 0 := by unfold clampN; rw [if_pos h0]
    rw [e0]; clear e0
    have hmk : ∀ W : World, (Instr.makeSlice 44 (.int .i64 0) (.int .i64 0)).run Tryd.prog W = .ok (.slice (some ⟨W.heap.size, 0, none⟩) 0 0) (W.alloc (.cells (madeCells #[.int .u64 0] (0 * 1)) 51)) := run_mk 0 (by omega)
    go_enter Tryd.func8, Tryd.ntmps8
    go_wp2
    go_ret
    exact ⟨rfl, rfl⟩
  · by_cases h1 : 65536 < n
    · have e0 : clampN n = 65536 := by unfold clampN; rw [if_neg h0, if_pos h1]
      rw [e0]; clear e0
      have hmk : ∀ W : World, (Instr.makeSlice 44 (.int .i64 1024) (.int .i64 1024)).run Tryd.prog W = .ok (.slice (some ⟨W.heap.size, 0, none⟩) 1024 1024) (W.alloc (.cells (madeCells #[.int .u64 0] (1024 * 1)) 51)) := run_mk 1024 (by omega)
      go_enter Tryd.func8, Tryd.ntmps8
      go_wp2
      go_ret
      exact ⟨rfl, rfl⟩
    · obtain ⟨k, rfl⟩ := Int.eq_ofNat_of_zero_le (by omega : 0 ≤ n)
      have e0 : clampN k = k := by unfold clampN; rw [if_neg h0, if_neg h1]; simp
      rw [e0]; clear e0
      obtain ⟨q, hq⟩ : ∃ q, wordsOf k = q := ⟨_, rfl⟩
      have hq1 : q ≤ 1024 := by rw [← hq]; unfold wordsOf; omega
      have hmk := run_mk q hq1
      have hdiv : ((k : Int) + 63).tdiv 64 = (q : Int) := by
        rw [Int.tdiv_eq_ediv_of_nonneg (by omega), ← hq]; unfold wordsOf; omega
      unfold newW
      rw [hq]
      clear hq
      go_enter Tryd.func8, Tryd.ntmps8
      go_wp2
      go_ret
      exact ⟨rfl, rfl⟩
section
variable {w w' : World} {base D c b N : Nat} {a : Option Addr} {Wd : Nat → Nat}
theorem size_any (s : BS w base D a c b N Wd) : Calls Tryd.prog 11 #[.pointer (some ⟨D, 0, none⟩)] w fun e w' => e = .returned (.int .i64 N) ∧ w = w' := by
  have s1 := s.s1
  clear s
  go_enter Tryd.func11, Tryd.ntmps11
  go_wp2
  go_ret
  exact ⟨rfl, rfl⟩
/-- Is the number one of the set's? -/
def ownB (N : Nat) (i : Int) : Bool := decide (0 ≤ i ∧ i < (N : Int))
theorem own_any (s : BS w base D a c b N Wd) (i : Int) : Calls Tryd.prog 25 #[.pointer (some ⟨D, 0, none⟩), .int .i64 i] w fun e w' => e = .returned (.bool (ownB N i)) ∧ w = w' := by
  have s1 := s.s1
  clear s
  by_cases h0 : 0 ≤ i
  · by_cases h1 : i < (N : Int)
    · have e : ownB N i = true := by unfold ownB; simp [h0, h1]
      rw [e]; clear e
      go_enter Tryd.func25, Tryd.ntmps25
      go_wp2
      go_ret
      exact ⟨rfl, rfl⟩
    · have e : ownB N i = false := by unfold ownB; simp [h1]
      rw [e]; clear e
      go_enter Tryd.func25, Tryd.ntmps25
      go_wp2
      go_ret
      exact ⟨rfl, rfl⟩
  · have e : ownB N i = false := by unfold ownB; simp [h0]
    have h2 : i < 0 := by omega
    rw [e]; clear e
    go_enter Tryd.func25, Tryd.ntmps25
    go_wp2
    go_ret
    exact ⟨rfl, rfl⟩
end
end Go.Proofs.YtcjlcbnjkkglbaaDoor
