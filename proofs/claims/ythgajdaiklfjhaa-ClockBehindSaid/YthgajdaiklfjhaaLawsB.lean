/-
  The plain law of ClockBehind: the ring behind a call of Next is the ring ahead of it, turned. No program in sight.
-/
import Derived.Test.YthgajdaiklfjhaaLawsP
namespace Go.Proofs.Ythgajdaiklfjhaa

theorem rot_at {L : Rg} {i : Nat} (h : i < L.length) : ((rot L).map Prod.fst)[i]? = (L.map Prod.fst)[(i + 1) % L.length]? := by
  cases L with
  | nil => simp at h
  | cons x r =>
    rw [rot_fst, List.length_cons]
    by_cases hi : i < r.length
    · rw [List.getElem?_append_left (by simpa using hi), Nat.mod_eq_of_lt (by omega), List.map_cons, List.getElem?_cons_succ]
    · have : i = r.length := by simp at h; omega
      subst this
      rw [List.getElem?_append_right (by simp), Nat.mod_self]
      simp
theorem rep_at {L : Rg} : ∀ (j i : Nat), i < L.length → ((Nat.repeat rot j L).map Prod.fst)[i]? = (L.map Prod.fst)[(j + i) % L.length]?
  | 0, i, h => by rw [Nat.zero_add, Nat.mod_eq_of_lt h]; rfl
  | j + 1, i, h => by
    show ((rot (Nat.repeat rot j L)).map Prod.fst)[i]? = _
    have hl := len_rots L j
    rw [rot_at (by omega), hl]
    have h2 : (i + 1) % L.length < L.length := Nat.mod_lt _ (by omega)
    rw [rep_at j _ h2]
    congr 1
    rw [Nat.add_mod, Nat.mod_mod, ← Nat.add_mod]
    congr 1
    omega
theorem nextN_last : ∀ (k : Nat) (L : Rg), wt L < k → L ≠ [] → ∃ f M x, nextN k L = (some f, M ++ [x]) ∧ x.1 = f
  | 0, _, h, _ => absurd h (Nat.not_lt_zero _)
  | k + 1, [], _, h => absurd rfl h
  | k + 1, x :: r, h, _ => by
    unfold nextN
    split
    · exact ⟨x.1, r, decE x, rfl, rfl⟩
    · rename_i hx
      have hw := wt_rot x r hx
      exact nextN_last k (rot (x :: r)) (by omega) (by simp [rot])
/-- The told one is the last; the ring is turned by p. -/
theorem next_behind {L : Rg} (h : L ≠ []) : ∃ f L' p, nextC L = (some f, L') ∧ L'.length = L.length ∧ p < L.length ∧ (L'.map Prod.fst)[L.length - 1]? = some f ∧ ∀ i, i < L.length → (L'.map Prod.fst)[i]? = (L.map Prod.fst)[(p + i) % L.length]? := by
  obtain ⟨j, f, h1, _⟩ := nextC_rots h
  obtain ⟨f', M, x, h2, h3⟩ := nextN_last _ L (Nat.lt_succ_self _) h
  have hl : 0 < L.length := by cases L with | nil => exact absurd rfl h | cons x r => simp
  have h4 : nextC L = (some f', M ++ [x]) := h2
  rw [h1] at h4
  have h5 : f = f' := by have := congrArg Prod.fst h4; simpa using this
  have h6 : Nat.repeat rot (j + 1) L = M ++ [x] := by have := congrArg Prod.snd h4; simpa using this
  have h7 := len_rots L (j + 1)
  refine ⟨f, _, (j + 1) % L.length, h1, h7, Nat.mod_lt _ hl, ?_, fun i hi => ?_⟩
  · rw [h6] at h7 ⊢
    have hM : L.length - 1 = M.length := by simp at h7; omega
    rw [hM, List.map_append, List.getElem?_append_right (by simp)]
    simp [h3, h5]
  · rw [rep_at _ _ hi]
    congr 1
    rw [Nat.add_mod, ← Nat.add_mod]
    rw [Nat.add_mod ((j + 1) % L.length), Nat.mod_mod, ← Nat.add_mod]
end Go.Proofs.Ythgajdaiklfjhaa
