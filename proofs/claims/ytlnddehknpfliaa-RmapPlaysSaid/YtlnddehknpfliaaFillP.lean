/-
  The plain law of RmapFill: what frames are given, and what is told of them.
-/
import Derived.Test.YtlnddehknpfliaaIter
namespace Go.Proofs.Ytlnddehknpfliaa

/-- i frames, from the last one down, have pages of a process, from fr on. -/
def fillF (n : Nat) (pid : Int) (fr : Nat) (i : Nat) : Fr := fun k => if n ≤ k + i ∧ k < n then (pid, ((fr + (n - 1 - k) : Nat) : Int)) else (0, 0)
theorem fillF_zero (n : Nat) (pid : Int) (fr : Nat) : fillF n pid fr 0 = none0 := by
  funext k; unfold fillF none0; rw [if_neg (by omega)]
theorem fillF_succ {n i : Nat} (pid : Int) (fr : Nat) (hi : i < n) : updF (fillF n pid fr i) (n - 1 - i) (pid, ((fr + i : Nat) : Int)) = fillF n pid fr (i + 1) := by
  funext k
  unfold updF fillF
  by_cases h : k = n - 1 - i
  · rw [if_pos h, if_pos (by omega)]
    rw [show fr + (n - 1 - k) = fr + i by omega]
  · rw [if_neg h]
    by_cases h2 : n ≤ k + i ∧ k < n
    · rw [if_pos h2, if_pos (by omega)]
    · rw [if_neg h2, if_neg (by omega)]
theorem fill_free {n i : Nat} (pid : Int) (fr : Nat) (hi : i < n) : (fillF n pid fr i (n - 1 - i)).1 = 0 := by
  unfold fillF; rw [if_neg (by omega)]
theorem fill_find {n i : Nat} {pid : Int} (h0 : pid ≠ 0) (fr : Nat) (hi : i < n) : findO n (fillF n pid fr i) (pid, ((fr + i : Nat) : Int)) = none := by
  cases h : findO n (fillF n pid fr i) (pid, ((fr + i : Nat) : Int)) with
  | none => rfl
  | some j =>
    obtain ⟨h1, h2, _⟩ := findO_some h
    unfold fillF at h2
    split at h2
    · have := congrArg Prod.snd h2
      simp only at this
      omega
    · have := congrArg Prod.fst h2
      exact absurd this.symm h0
theorem setF_fill {n i : Nat} {pid : Int} {fr : Nat} (h1 : 1 ≤ pid) (h8 : pid ≤ 8) (hfr : fr ≤ 800) (hn : n ≤ 200) (hi : i < n) : setF n (fillF n pid fr i) ((n - 1 - i : Nat) : Int) (pid, ((fr + i : Nat) : Int)) = (0, fillF n pid fr (i + 1)) := by
  have hm : mayB (pid, ((fr + i : Nat) : Int)) = true := by unfold mayB; simp; omega
  rw [setF_at hm (by omega) (fill_free pid fr hi) (fill_find (by omega) fr hi), fillF_succ pid fr hi]
/-- The list of pages and frames. -/
def fillE (n fr i : Nat) : List (Nat × Nat) := (List.range i).map fun j => (fr + j, n - 1 - j)
theorem fill_of {n fr : Nat} {pid : Int} (h0 : pid ≠ 0) (o : OkF n (fillF n pid fr n)) : ∀ m, ofL n (fillF n pid fr n) pid m = fillE n fr (min (m - fr) n) := by
  have hat : ∀ k, k < n → fillF n pid fr n k = (pid, ((fr + (n - 1 - k) : Nat) : Int)) := fun k hk => by unfold fillF; rw [if_pos (by omega)]
  have hin : ∀ j, j < n → findO n (fillF n pid fr n) (pid, ((fr + j : Nat) : Int)) = some (n - 1 - j) := fun j hj => by
    have := findO_at o (k := n - 1 - j) (by omega) (by rw [hat _ (by omega)]; exact h0)
    rw [hat _ (by omega)] at this
    rw [show fr + (n - 1 - (n - 1 - j)) = fr + j by omega] at this
    exact this
  have hout : ∀ p : Nat, (p < fr ∨ fr + n ≤ p) → findO n (fillF n pid fr n) (pid, (p : Int)) = none := fun p hp => by
    cases h : findO n (fillF n pid fr n) (pid, (p : Int)) with
    | none => rfl
    | some j =>
      obtain ⟨h1, h2, _⟩ := findO_some h
      rw [hat j h1] at h2
      have := congrArg Prod.snd h2
      simp only at this
      omega
  intro m
  induction m with
  | zero => simp [ofL, fillE]
  | succ m ih =>
    by_cases h : fr ≤ m ∧ m < fr + n
    · obtain ⟨j, rfl⟩ : ∃ j, m = fr + j := ⟨m - fr, by omega⟩
      have hj : j < n := by omega
      rw [ofL_in (hin j hj), ih]
      rw [show min (fr + j - fr) n = j by omega, show min (fr + j + 1 - fr) n = j + 1 by omega]
      unfold fillE
      rw [List.range_succ, List.map_append]
      rfl
    · rw [ofL_out (hout m (by omega)), ih]
      congr 1
      omega
theorem fillE_len (n fr i : Nat) : (fillE n fr i).length = i := by simp [fillE]
theorem fillE_at {n fr i j : Nat} (h : j < i) : (fillE n fr i)[j]? = some (fr + j, n - 1 - j) := by
  unfold fillE; rw [List.getElem?_map, List.getElem?_range h]; rfl
theorem prefix_snoc {α : Type} {l p : List α} {x : α} (h : p <+: l) (hx : l[p.length]? = some x) : p ++ [x] <+: l := by
  obtain ⟨r, rfl⟩ := h
  rw [List.getElem?_append_right (Nat.le_refl _), Nat.sub_self] at hx
  cases r with
  | nil => simp at hx
  | cons y r => simp at hx; subst hx; exact ⟨r, by simp⟩
theorem not_prefix {α : Type} {l p : List α} {x y : α} (hy : l[p.length]? = some y) (hne : y ≠ x) : ¬ (p ++ [x] <+: l) := by
  rintro ⟨r, rfl⟩
  rw [List.append_assoc, List.getElem?_append_right (Nat.le_refl _), Nat.sub_self] at hy
  simp at hy
  exact hne hy.symm
/-- The first i are cleared. -/
def cutF (f : Fr) (i : Nat) : Fr := fun k => if k < i then (0, 0) else f k
theorem cutF_zero (f : Fr) : cutF f 0 = f := by funext k; unfold cutF; rw [if_neg (by omega)]
theorem cutF_succ (f : Fr) (i : Nat) : updF (cutF f i) i (0, 0) = cutF f (i + 1) := by
  funext k
  unfold updF cutF
  by_cases h : k = i
  · rw [if_pos h, if_pos (by omega)]
  · rw [if_neg h]
    by_cases h2 : k < i
    · rw [if_pos h2, if_pos (by omega)]
    · rw [if_neg h2, if_neg (by omega)]
theorem clearF_fill {n i : Nat} {pid : Int} {fr : Nat} (h0 : pid ≠ 0) (hi : i < n) : clearF n (cutF (fillF n pid fr n) i) (i : Int) = (0, cutF (fillF n pid fr n) (i + 1)) := by
  rw [clearF_at hi (by unfold cutF fillF; rw [if_neg (by omega), if_pos (by omega)]; exact h0), cutF_succ]
theorem ofL_cut {n : Nat} {f : Fr} {pid : Int} : ∀ m, ofL n (cutF f n) pid m = [] := by
  intro m
  induction m with
  | zero => simp [ofL]
  | succ m ih =>
    rw [ofL_out, ih]
    cases h : findO n (cutF f n) (pid, (m : Int)) with
    | none => rfl
    | some j =>
      obtain ⟨h1, h2, h3⟩ := findO_some h
      unfold cutF at h2
      rw [if_pos h1] at h2
      rw [← h2] at h3
      exact absurd rfl h3
end Go.Proofs.Ytlnddehknpfliaa
