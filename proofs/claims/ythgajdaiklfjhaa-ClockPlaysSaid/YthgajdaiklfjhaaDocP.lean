/-
  The document's ring: where a frame is, the ring's cells. No program in sight.
-/
import Derived.Test.YthgajdaiklfjhaaPlain
import Derived.Test.YthgajdaiklfjhaaOwn
namespace Go.Proofs.Ythgajdaiklfjhaa
open Go.RowKit

def findO : Rg → Int → Option Nat
  | [], _ => none
  | x :: r, f => if x.1 = f then some 0 else (findO r f).map (· + 1)
theorem findO_some : ∀ {L : Rg} {f : Int} {k : Nat}, findO L f = some k → ∃ x, L[k]? = some x ∧ x.1 = f
  | [], f, k, h => by cases h
  | x :: r, f, k, h => by
    unfold findO at h
    split at h
    · cases h; exact ⟨x, rfl, by assumption⟩
    · rw [Option.map_eq_some_iff] at h
      obtain ⟨j, hj, rfl⟩ := h
      obtain ⟨y, h1, h2⟩ := findO_some hj
      exact ⟨y, by simpa using h1, h2⟩
theorem findO_at : ∀ {L : Rg} {f : Int} {k : Nat} {x : En}, L[k]? = some x → x.1 = f → (∀ j y, j < k → L[j]? = some y → y.1 ≠ f) → findO L f = some k
  | [], f, k, x, h, _, _ => by simp at h
  | y :: r, f, 0, x, h, hx, _ => by
    simp at h; subst h
    unfold findO; rw [if_pos hx]
  | y :: r, f, k + 1, x, h, hx, hn => by
    unfold findO
    rw [if_neg (hn 0 y (by omega) rfl), findO_at (k := k) (x := x) (by simpa using h) hx (fun j z hj hz => hn (j + 1) z (by omega) (by simpa using hz))]
    rfl
theorem findO_no : ∀ {L : Rg} {f : Int}, (∀ (j : Nat) (y : En), L[j]? = some y → y.1 ≠ f) → findO L f = none
  | [], f, _ => rfl
  | y :: r, f, hn => by
    unfold findO
    rw [if_neg (hn 0 y rfl), findO_no (fun j z hz => hn (j + 1) z (by simpa using hz))]
    rfl
theorem findO_has (L : Rg) (f : Int) : (findO L f).isSome = hasC L f := by
  induction L with
  | nil => rfl
  | cons x r ih =>
    unfold findO hasC
    rw [List.any_cons]
    split
    · rename_i h
      simp [h]
    · rename_i h
      rw [Option.isSome_map, ih]
      have : (x.1 == f) = false := beq_eq_false_iff_ne.2 h
      rw [this, Bool.false_or]; rfl
/-- A frame's place; -1: none. -/
def findI (L : Rg) (f : Int) : Int := match findO L f with | some k => (k : Int) | none => -1
theorem out_at : ∀ {L : Rg} {f : Int} {k : Nat} {x : En}, (L.map Prod.fst).Nodup → L[k]? = some x → x.1 = f → L.take k ++ L.drop (k + 1) = L.filter fun x => x.1 != f
  | [], f, k, x, _, h, _ => by simp at h
  | y :: r, f, 0, x, hn, h, hx => by
    simp at h; subst h
    rw [List.map_cons, List.nodup_cons] at hn
    rw [List.filter_cons_of_neg (by simp [hx])]
    simp only [List.take_zero, List.nil_append, Nat.zero_add, List.drop_succ_cons, List.drop_zero]
    symm
    rw [List.filter_eq_self]
    intro z hz
    rw [bne_iff_ne]
    exact fun e => hn.1 (List.mem_map.2 ⟨z, hz, by rw [hx]; exact e⟩)
  | y :: r, f, k + 1, x, hn, h, hx => by
    rw [List.map_cons, List.nodup_cons] at hn
    have hr : r[k]? = some x := by simpa using h
    have hy : y.1 ≠ f := fun e => hn.1 (List.mem_map.2 ⟨x, List.mem_of_getElem? hr, by rw [hx, e]⟩)
    rw [List.filter_cons_of_pos (by simpa using hy), ← out_at hn.2 hr hx]
    simp
theorem set_at : ∀ {L : Rg} {f : Int} {k : Nat} {x : En}, (L.map Prod.fst).Nodup → L[k]? = some x → x.1 = f → L.set k (x.1, (x.2.1, true)) = L.map (touchE f)
  | [], f, k, x, _, h, _ => by simp at h
  | y :: r, f, 0, x, hn, h, hx => by
    simp at h; subst h
    rw [List.map_cons, List.nodup_cons] at hn
    rw [List.set_cons_zero, List.map_cons]
    congr 1
    · unfold touchE; rw [if_pos hx]
    · symm
      have : ∀ z ∈ r, touchE f z = z := fun z hz => by
        unfold touchE
        rw [if_neg (fun e => hn.1 (List.mem_map.2 ⟨z, hz, by rw [hx]; exact e⟩))]
      exact (List.map_congr_left this).trans (List.map_id' r)
  | y :: r, f, k + 1, x, hn, h, hx => by
    rw [List.map_cons, List.nodup_cons] at hn
    have hr : r[k]? = some x := by simpa using h
    have hy : y.1 ≠ f := fun e => hn.1 (List.mem_map.2 ⟨x, List.mem_of_getElem? hr, by rw [hx, e]⟩)
    rw [List.set_cons_succ, List.map_cons, set_at hn.2 hr hx]
    congr 1
    unfold touchE; rw [if_neg hy]

/-! The ring's cells: three an entry. -/
def cellsR (L : Rg) : List Value := L.flatMap fun x => [.int .i64 x.1, .bool x.2.1, .bool x.2.2]
theorem cellsR_cons (x : En) (L : Rg) : cellsR (x :: L) = .int .i64 x.1 :: .bool x.2.1 :: .bool x.2.2 :: cellsR L := by simp [cellsR]
theorem cellsR_append (L M : Rg) : cellsR (L ++ M) = cellsR L ++ cellsR M := by simp [cellsR]
theorem cellsR_snoc (L : Rg) (f : Int) (p q : Bool) : cellsR (L ++ [(f, (p, q))]) = cellsR L ++ [.int .i64 f, .bool p, .bool q] := by simp [cellsR]
theorem cellsR_at : ∀ {L : Rg} {i : Nat} {x : En}, L[i]? = some x → (cellsR L)[i * 3]? = some (.int .i64 x.1) ∧ (cellsR L)[i * 3 + 1]? = some (.bool x.2.1) ∧ (cellsR L)[i * 3 + 2]? = some (.bool x.2.2)
  | [], i, x, h => by simp at h
  | y :: r, 0, x, h => by
    simp at h; subst h
    simp [cellsR_cons]
  | y :: r, i + 1, x, h => by
    have := cellsR_at (L := r) (i := i) (x := x) (by simpa using h)
    rw [cellsR_cons, show (i + 1) * 3 = i * 3 + 1 + 1 + 1 by omega]
    simpa using this
theorem cellsR_take : ∀ (L : Rg) (k : Nat), (cellsR L).take (k * 3) = cellsR (L.take k)
  | [], k => by simp [cellsR]
  | y :: r, 0 => by simp [cellsR]
  | y :: r, k + 1 => by
    rw [cellsR_cons, List.take_succ_cons, cellsR_cons, ← cellsR_take r k, show (k + 1) * 3 = k * 3 + 1 + 1 + 1 by omega]
    simp
theorem cellsR_drop : ∀ (L : Rg) (k : Nat), (cellsR L).drop (k * 3) = cellsR (L.drop k)
  | [], k => by simp [cellsR]
  | y :: r, 0 => by simp
  | y :: r, k + 1 => by
    rw [cellsR_cons, List.drop_succ_cons, ← cellsR_drop r k, show (k + 1) * 3 = k * 3 + 1 + 1 + 1 by omega]
    simp
theorem cellsR_set : ∀ {L : Rg} {i : Nat} {x : En}, L[i]? = some x → (cellsR L).set (i * 3 + 2) (.bool true) = cellsR (L.set i (x.1, (x.2.1, true)))
  | [], i, x, h => by simp at h
  | y :: r, 0, x, h => by
    simp at h; subst h
    simp [cellsR_cons]
  | y :: r, i + 1, x, h => by
    have := cellsR_set (L := r) (i := i) (x := x) (by simpa using h)
    rw [cellsR_cons, show (i + 1) * 3 + 2 = i * 3 + 2 + 1 + 1 + 1 by omega, List.set_cons_succ, List.set_cons_succ, List.set_cons_succ, this, List.set_cons_succ, cellsR_cons]
theorem cellsR_len (L : Rg) : (cellsR L).length = L.length * 3 := by
  induction L with
  | nil => rfl
  | cons x r ih => rw [cellsR_cons, List.length_cons, List.length_cons, List.length_cons, ih, List.length_cons]; omega
theorem cellsR_one (L : Rg) : ∀ u ∈ cellsR L, u.oneCell' = true := by
  intro u hu
  unfold cellsR at hu
  obtain ⟨x, _, hx⟩ := List.mem_flatMap.1 hu
  simp at hx
  rcases hx with rfl | rfl | rfl <;> rfl
/-- How many are active, one by one. -/
def actD (L : Rg) : Nat := (L.filter fun x => x.2.1).length
theorem actD_snoc (L : Rg) (x : En) : actD (L ++ [x]) = actD L + if x.2.1 then 1 else 0 := by
  unfold actD
  rw [List.filter_append, List.length_append]
  cases h : x.2.1 <;> simp [h]
theorem actD_le (L : Rg) : actD L ≤ L.length := List.length_filter_le _ _
end Go.Proofs.Ythgajdaiklfjhaa
