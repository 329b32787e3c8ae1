/-
  A list of rows of F numbers each, cell by cell. It speaks of no program.
-/
import Derived.Test.YtljgpiljfigojaaOwn
namespace Go.Proofs.Ytljgpiljfigojaa
open Go.RowKit

abbrev VRow := Nat → Int
def rowI (F : Nat) (v : VRow) : List Value := (List.range F).map fun j => .int .i64 (v j)
theorem rowI_len (F : Nat) (v : VRow) : (rowI F v).length = F := by simp [rowI]
theorem rowI_at {F j : Nat} (v : VRow) (h : j < F) : (rowI F v)[j]? = some (.int .i64 (v j)) := by simp [rowI, h]
/-- The rows, cell by cell. -/
def cellsR (F : Nat) (l : List VRow) : List Value := l.flatMap (rowI F)
theorem cellsR_nil (F : Nat) : cellsR F [] = [] := rfl
theorem cellsR_cons (F : Nat) (v : VRow) (r : List VRow) : cellsR F (v :: r) = rowI F v ++ cellsR F r := by unfold cellsR; rw [List.flatMap_cons]
theorem cellsR_append (F : Nat) (l r : List VRow) : cellsR F (l ++ r) = cellsR F l ++ cellsR F r := by unfold cellsR; rw [List.flatMap_append]
theorem cellsR_snoc (F : Nat) (l : List VRow) (v : VRow) : cellsR F (l ++ [v]) = cellsR F l ++ rowI F v := by rw [cellsR_append, cellsR_cons, cellsR_nil, List.append_nil]
theorem cellsR_len (F : Nat) (l : List VRow) : (cellsR F l).length = l.length * F := by
  induction l with
  | nil => simp [cellsR_nil]
  | cons v r ih => rw [cellsR_cons, List.length_append, rowI_len, ih, List.length_cons, Nat.add_mul]; omega
theorem cellsR_at {F : Nat} : ∀ (l : List VRow) (i : Nat) (v : VRow), l[i]? = some v → ∀ j, j < F → (cellsR F l)[i * F + j]? = some (.int .i64 (v j))
  | [], i, v, h, j, hj => by simp at h
  | u :: r, 0, v, h, j, hj => by
    simp at h
    subst h
    rw [cellsR_cons, Nat.zero_mul, Nat.zero_add, List.getElem?_append_left (by rw [rowI_len]; exact hj)]
    exact rowI_at u hj
  | u :: r, i + 1, v, h, j, hj => by
    rw [cellsR_cons, List.getElem?_append_right (by rw [rowI_len, Nat.add_mul]; omega), rowI_len, show (i + 1) * F + j - F = i * F + j by rw [Nat.add_mul]; omega]
    exact cellsR_at r i v (by simpa using h) j hj
theorem cellsR_one (F : Nat) (l : List VRow) : ∀ u ∈ cellsR F l, u.oneCell' = true := by
  intro u hu
  unfold cellsR at hu
  obtain ⟨v, _, hv⟩ := List.mem_flatMap.1 hu
  unfold rowI at hv
  obtain ⟨j, _, rfl⟩ := List.mem_map.1 hv
  rfl
theorem rowI_one (F : Nat) (v : VRow) : ∀ u ∈ rowI F v, u.oneCell' = true := by
  intro u hu
  unfold rowI at hu
  obtain ⟨j, _, rfl⟩ := List.mem_map.1 hu
  rfl
theorem cellsR_take (F : Nat) (l : List VRow) : ∀ k, (cellsR F l).take (k * F) = cellsR F (l.take k) := by
  induction l with
  | nil => intro k; simp [cellsR_nil]
  | cons v r ih =>
    intro k
    cases k with
    | zero => simp [cellsR_nil]
    | succ k =>
      rw [List.take_succ_cons, cellsR_cons, cellsR_cons, List.take_append, rowI_len, show (k + 1) * F - F = k * F by rw [Nat.add_mul]; omega, ih k, List.take_of_length_le (by rw [rowI_len, Nat.add_mul]; omega)]
theorem cellsR_drop (F : Nat) (l : List VRow) : ∀ k, (cellsR F l).drop (k * F) = cellsR F (l.drop k) := by
  induction l with
  | nil => intro k; simp [cellsR_nil]
  | cons v r ih =>
    intro k
    cases k with
    | zero => simp
    | succ k =>
      rw [List.drop_succ_cons, cellsR_cons, List.drop_append, rowI_len, show (k + 1) * F - F = k * F by rw [Nat.add_mul]; omega, ih k, List.drop_eq_nil_iff.2 (by rw [rowI_len, Nat.add_mul]; omega), List.nil_append]
section
variable {w : World} {base e F n c g : Nat} {l : List VRow} {a : Option Addr}
theorem OwnAt.row (h : OwnAt w base e F a n c g (cellsR F l)) {i : Nat} {v : VRow} (hi : l[i]? = some v) {j : Nat} (hj : j < F) : w.cell? ⟨g, i * F + j, none⟩ = some (.int .i64 (v j)) := h.cell (cellsR_at l i v hi j hj)
theorem OwnAt.row0 (h : OwnAt w base e F a n c g (cellsR F l)) {i : Nat} {v : VRow} (hi : l[i]? = some v) (hF : 0 < F) : w.cell? ⟨g, i * F, none⟩ = some (.int .i64 (v 0)) := h.cell (cellsR_at l i v hi 0 hF)
end
theorem row_at {l : List VRow} {i : Nat} (hi : i < l.length) : ∃ v, l[i]? = some v ∧ v ∈ l := ⟨l[i], List.getElem?_eq_getElem hi, List.getElem_mem hi⟩
end Go.Proofs.Ytljgpiljfigojaa
