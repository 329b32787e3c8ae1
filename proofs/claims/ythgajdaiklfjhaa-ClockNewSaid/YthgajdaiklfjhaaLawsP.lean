/-
  The plain laws of the clock: three rounds in which nobody is touched; who is told then. No program in sight.
-/
import Derived.Test.YthgajdaiklfjhaaPlain
namespace Go.Proofs.Ythgajdaiklfjhaa

theorem rep_add (a b : Nat) (L : Rg) : Nat.repeat rot (a + b) L = Nat.repeat rot a (Nat.repeat rot b L) := by
  induction a with
  | zero => rw [Nat.zero_add]; rfl
  | succ a ih => rw [show a + 1 + b = (a + b) + 1 by omega]; show rot (Nat.repeat rot (a + b) L) = rot (Nat.repeat rot a _); rw [ih]
theorem rep_shift (a : Nat) (L : Rg) : Nat.repeat rot (a + 1) L = Nat.repeat rot a (rot L) := rep_add a 1 L
theorem rep_pass : ∀ (A B : Rg), Nat.repeat rot A.length (A ++ B) = B ++ A.map decE
  | [], B => by simp; rfl
  | x :: A, B => by
    rw [List.length_cons, rep_shift]
    have : rot (x :: A ++ B) = A ++ (B ++ [decE x]) := by simp [rot]
    rw [this, rep_pass A]
    simp
def zero (L : Rg) : Prop := ∀ x ∈ L, x.2 = (false, false)
theorem zero_rot {L : Rg} (h : zero L) : zero (rot L) := by
  cases L with
  | nil => exact h
  | cons x r =>
    intro y hy
    unfold rot at hy
    rcases List.mem_append.1 hy with h1 | h1
    · exact h y (List.mem_cons_of_mem _ h1)
    · rw [List.mem_singleton] at h1
      subst h1
      have := h x List.mem_cons_self
      unfold decE
      rw [this]
theorem zero_rep {L : Rg} (h : zero L) : ∀ j, zero (Nat.repeat rot j L)
  | 0 => h
  | j + 1 => zero_rot (zero_rep h j)
/-- Behind two passes nobody is touched, nobody is active. -/
theorem zero_late (L : Rg) {j : Nat} (h : 2 * L.length ≤ j) : zero (Nat.repeat rot j L) := by
  obtain ⟨d, rfl⟩ : ∃ d, j = d + 2 * L.length := ⟨j - 2 * L.length, by omega⟩
  rw [rep_add]
  refine zero_rep ?_ d
  have h1 : Nat.repeat rot L.length L = L.map decE := by have := rep_pass L []; simpa using this
  have h2 : Nat.repeat rot (2 * L.length) L = (L.map decE).map decE := by
    rw [Nat.two_mul, rep_add, h1]
    have := rep_pass (L.map decE) []
    simpa using this
  rw [h2]
  intro x hx
  rw [List.map_map, List.mem_map] at hx
  obtain ⟨y, _, rfl⟩ := hx
  rfl
/-- One more call of Next: it turns the ring at least once. -/
theorem next_rep {L L' : Rg} {i j : Nat} (h : L' = Nat.repeat rot j L) (hj : i ≤ j) (h0 : L ≠ []) : ∃ f j', nextC L' = (some f, Nat.repeat rot j' L) ∧ i + 1 ≤ j' := by
  have h1 : L' ≠ [] := by
    intro e
    have := len_rots L j
    rw [← h, e] at this
    exact h0 (List.eq_nil_of_length_eq_zero this.symm)
  obtain ⟨k, f, h2, _⟩ := nextC_rots h1
  exact ⟨f, (k + 1) + j, by rw [h2, h, ← rep_add], by omega⟩
/-- The ring turned by i. -/
def turn (L : Rg) (i : Nat) : Rg := L.drop i ++ L.take i
theorem turn_zero (L : Rg) : turn L 0 = L := by simp [turn]
theorem turn_len (L : Rg) : turn L L.length = L := by simp [turn]
theorem next_turn {L : Rg} (h : zero L) {i : Nat} {x : En} (hx : L[i]? = some x) : nextC (turn L i) = (some x.1, turn L (i + 1)) := by
  obtain ⟨hi, e⟩ := List.getElem?_eq_some_iff.1 hx
  have hd : L.drop i = x :: L.drop (i + 1) := by rw [← e]; exact List.drop_eq_getElem_cons hi
  have hz := h x (List.mem_of_getElem? hx)
  have hdec : decE x = x := by obtain ⟨f, m⟩ := x; simp at hz; subst hz; rfl
  unfold turn
  rw [hd, List.cons_append, nextC_told _ hz]
  show (some x.1, (L.drop (i + 1) ++ L.take i) ++ [decE x]) = _
  rw [hdec, List.append_assoc, List.take_add_one, hx]
  rfl
theorem turn_mem {L : Rg} {i : Nat} {x : En} : x ∈ turn L i ↔ x ∈ L := by
  unfold turn
  rw [List.mem_append]
  constructor
  · rintro (h | h)
    · exact List.mem_of_mem_drop h
    · exact List.mem_of_mem_take h
  · intro h
    rw [← List.take_append_drop i L] at h
    rcases List.mem_append.1 h with h | h
    · exact .inr h
    · exact .inl h
theorem has_turn {L : Rg} {i k : Nat} {x : En} (hx : L[i]? = some x) : hasC (turn L k) x.1 = true :=
  hasC_true.2 ⟨x.2, turn_mem.2 (List.mem_of_getElem? hx)⟩
end Go.Proofs.Ythgajdaiklfjhaa
