/-
  The plain law of ClockNew: who is told behind a removal, and behind a new one. No program in sight.
-/
import Derived.Test.YthgajdaiklfjhaaLawsP
import Derived.Test.YthgajdaiklfjhaaRem
namespace Go.Proofs.Ythgajdaiklfjhaa

/-- The ring turned by i, a new frame behind. -/
def turnF (L : Rg) (e : En) (i : Nat) : Rg := L.drop i ++ e :: L.take i
theorem turnF_zero (L : Rg) (e : En) : turnF L e 0 = L ++ [e] := by simp [turnF]
theorem turnF_len (L : Rg) (e : En) {i : Nat} (h : i ≤ L.length) : (turnF L e i).length = L.length + 1 := by simp [turnF]; omega
theorem next_turnF {L : Rg} (h : zero L) (e : En) {i : Nat} {x : En} (hx : L[i]? = some x) : nextC (turnF L e i) = (some x.1, turnF L e (i + 1)) := by
  obtain ⟨hi, e'⟩ := List.getElem?_eq_some_iff.1 hx
  have hd : L.drop i = x :: L.drop (i + 1) := by rw [← e']; exact List.drop_eq_getElem_cons hi
  have hz := h x (List.mem_of_getElem? hx)
  have hdec : decE x = x := by obtain ⟨f, m⟩ := x; simp at hz; subst hz; rfl
  unfold turnF
  rw [hd, List.cons_append, nextC_told _ hz]
  show (some x.1, (L.drop (i + 1) ++ e :: L.take i) ++ [decE x]) = _
  rw [hdec, List.append_assoc, List.take_add_one, hx]
  rfl
theorem zero_filter {L : Rg} (h : zero L) (p : En → Bool) : zero (L.filter p) := fun x hx => h x (List.mem_filter.1 hx).1
/-- How many are told ahead of the i-th, the q-th let out. -/
def outI (q i : Nat) : Nat := if i ≤ q then i else i - 1
theorem outI_at (q : Nat) : outI q (q + 1) = outI q q := by unfold outI; rw [if_neg (by omega), if_pos (by omega)]; omega
theorem outI_succ {q i : Nat} (h : i ≠ q) : outI q (i + 1) = outI q i + 1 := by
  unfold outI
  split <;> split <;> omega
theorem out_get {L : Rg} (o : OkC L) {q i : Nat} {x y : En} (hq : L[q]? = some x) (hi : L[i]? = some y) (hne : i ≠ q) : ∃ z, (L.filter fun e => e.1 != x.1)[outI q i]? = some z ∧ z.1 = y.1 := by
  have h1 : (L.map Prod.fst)[q]? = some x.1 := by rw [List.getElem?_map, hq]; rfl
  have h2 := erase_at o.nd h1
  rw [← filter_fst] at h2
  have h3 : ((L.filter fun e => e.1 != x.1).map Prod.fst)[outI q i]? = some y.1 := by
    rw [← h2, List.getElem?_eraseIdx]
    unfold outI
    by_cases h : i ≤ q
    · rw [if_pos h, if_pos (by omega), List.getElem?_map, hi]; rfl
    · rw [if_neg h, if_neg (by omega), show i - 1 + 1 = i by omega, List.getElem?_map, hi]; rfl
  rw [List.getElem?_map, Option.map_eq_some_iff] at h3
  exact h3
theorem uniq {L : Rg} (o : OkC L) {q i : Nat} {x y : En} (hq : L[q]? = some x) (hi : L[i]? = some y) : y.1 = x.1 ↔ i = q := by
  constructor
  · intro e
    have h1 : (L.map Prod.fst)[q]? = some x.1 := by rw [List.getElem?_map, hq]; rfl
    have h2 : (L.map Prod.fst)[i]? = some x.1 := by rw [List.getElem?_map, hi]; exact congrArg some e
    exact (List.getElem?_inj (List.getElem?_eq_some_iff.1 h2).1 o.nd).1 (h2.trans h1.symm)
  · rintro rfl
    rw [hq] at hi
    cases hi; rfl
end Go.Proofs.Ythgajdaiklfjhaa
