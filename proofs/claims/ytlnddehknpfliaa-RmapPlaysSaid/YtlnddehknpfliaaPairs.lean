/-
  A row of pairs of numbers, by index. It speaks of no program.
-/
import Derived.Test.YtlnddehknpfliaaOwn
namespace Go.Proofs.Ytlnddehknpfliaa
open Go.RowKit

abbrev Pr := Nat → Int × Int
/-- The pairs 0 to n - 1, cell by cell. -/
def cellsP (n : Nat) (f : Pr) : List Value := (List.range (n * 2)).map fun i => .int .i64 (if i % 2 = 0 then (f (i / 2)).1 else (f (i / 2)).2)
theorem cellsP_len (n : Nat) (f : Pr) : (cellsP n f).length = n * 2 := by simp [cellsP]
theorem cellsP_get (n : Nat) (f : Pr) (i : Nat) : (cellsP n f)[i]? = if i < n * 2 then some (.int .i64 (if i % 2 = 0 then (f (i / 2)).1 else (f (i / 2)).2)) else none := by
  unfold cellsP
  rw [List.getElem?_map]
  split
  · rename_i h; rw [List.getElem?_range h]; rfl
  · rename_i h; rw [List.getElem?_eq_none (by simpa using h)]; rfl
theorem cellsP_fst {n : Nat} {f : Pr} {k : Nat} (h : k < n) : (cellsP n f)[k * 2]? = some (.int .i64 (f k).1) := by
  rw [cellsP_get, if_pos (by omega), if_pos (by omega), Nat.mul_div_cancel _ (by omega)]
theorem cellsP_snd {n : Nat} {f : Pr} {k : Nat} (h : k < n) : (cellsP n f)[k * 2 + 1]? = some (.int .i64 (f k).2) := by
  rw [cellsP_get, if_pos (by omega), if_neg (by omega), show (k * 2 + 1) / 2 = k by omega]
theorem cellsP_one (n : Nat) (f : Pr) : ∀ u ∈ cellsP n f, u.oneCell' = true := by
  intro u hu
  unfold cellsP at hu
  obtain ⟨i, _, rfl⟩ := List.mem_map.1 hu
  rfl
theorem cellsP_congr {n : Nat} {f f' : Pr} (h : ∀ k, k < n → f k = f' k) : cellsP n f = cellsP n f' := by
  apply List.ext_getElem?
  intro i
  rw [cellsP_get, cellsP_get]
  split
  · rw [h (i / 2) (by omega)]
  · rfl
def updP (f : Pr) (k : Nat) (v : Int × Int) : Pr := fun j => if j = k then v else f j
theorem updP_same (f : Pr) (k : Nat) (v : Int × Int) : updP f k v k = v := by unfold updP; rw [if_pos rfl]
theorem updP_other (f : Pr) {k j : Nat} (v : Int × Int) (h : j ≠ k) : updP f k v j = f j := by unfold updP; rw [if_neg h]
theorem cellsP_set {n : Nat} (f : Pr) (k : Nat) (v : Int × Int) : ((cellsP n f).set (k * 2) (.int .i64 v.1)).set (k * 2 + 1) (.int .i64 v.2) = cellsP n (updP f k v) := by
  apply List.ext_getElem?
  intro i
  rw [List.getElem?_set, List.getElem?_set, List.length_set, cellsP_len, cellsP_get, cellsP_get]
  unfold updP
  by_cases h1 : k * 2 + 1 = i
  · subst h1
    rw [if_pos rfl]
    split
    · rw [if_neg (by omega), if_pos (by omega)]
    · rfl
  · rw [if_neg h1]
    by_cases h2 : k * 2 = i
    · subst h2
      rw [if_pos rfl]
      split
      · rw [if_pos (by omega), if_pos (by omega)]
      · rfl
    · rw [if_neg h2]
      split
      · rw [if_neg (show ¬ i / 2 = k by omega)]
      · rfl
/-- What a make lays. -/
theorem own_pairs {w w1 : World} {base e S n : Nat} (hb : base ≤ w.heap.size) (hn : n ≤ maxLen) (hw : w1 = w.alloc (.cells (madeCells #[.int .i64 0, .int .i64 0] (n * 2)) e)) (hS : S = w.heap.size) : OwnAt w1 base e 2 (some ⟨S, 0, none⟩) n n S (cellsP n fun _ => (0, 0)) := by
  subst hw hS
  have hl : (madeCells #[.int .i64 0, .int .i64 0] (n * 2)).size = n * 2 := size_madeCells _ _
  have h := World.ownsRow_lit (base := base) (e := e) (size := 2) w (madeCells #[.int .i64 0, .int .i64 0] (n * 2)) n hb hn hl
  have hx : (madeCells #[.int .i64 0, .int .i64 0] (n * 2)).toList = cellsP n fun _ => (0, 0) := by
    apply List.ext_getElem?
    intro i
    rw [cellsP_get]
    rw [Array.getElem?_toList]
    unfold madeCells
    rw [Array.getElem?_map, Array.getElem?_range]
    split
    · simp only [Option.map_some]
      rcases Nat.mod_two_eq_zero_or_one i with h0 | h0 <;> simp [h0]
    · rfl
  rw [hx] at h
  exact ⟨h, fun _ => rfl, fun b hb' => by cases hb'; exact ⟨rfl, hb, by simp⟩⟩
section
variable {w w' : World} {base e n c B : Nat} {f : Pr} {a : Option Addr}
theorem OwnAt.fst (h : OwnAt w base e 2 a n c B (cellsP n f)) {k : Nat} (hk : k < n) : w.cell? ⟨B, k * 2, none⟩ = some (.int .i64 (f k).1) := h.cell (cellsP_fst hk)
theorem OwnAt.snd (h : OwnAt w base e 2 a n c B (cellsP n f)) {k : Nat} (hk : k < n) : w.cell? ⟨B, k * 2 + 1, none⟩ = some (.int .i64 (f k).2) := h.cell (cellsP_snd hk)
theorem OwnAt.set2 (h : OwnAt w base e 2 a n c B (cellsP n f)) {k : Nat} (hk : k < n) (x y : Int) :
    OwnAt ((w.setCell ⟨B, k * 2, none⟩ (.int .i64 x)).setCell ⟨B, k * 2 + 1, none⟩ (.int .i64 y)) base e 2 a n c B (cellsP n (updP f k (x, y))) := by
  have h2 := (h.set (by omega) (k * 2) (.int .i64 x) (by omega)).set (by omega) (k * 2 + 1) (.int .i64 y) (by omega)
  rw [cellsP_set f k (x, y)] at h2
  exact h2
theorem OwnAt.congr (h : OwnAt w base e 2 a n c B (cellsP n f)) {f' : Pr} (e' : ∀ k, k < n → f k = f' k) : OwnAt w base e 2 a n c B (cellsP n f') := by
  rw [← cellsP_congr e']; exact h
end
end Go.Proofs.Ytlnddehknpfliaa
