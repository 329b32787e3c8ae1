/-
  Those that are taken, told by a list: no two are one, and each is its page's. No program in sight.
-/
import Derived.Test.YtljgpiljfigojaaLeast
import Derived.Test.YtljgpiljfigojaaRowsI
namespace Go.Proofs.Ytljgpiljfigojaa
open Go.RowKit

/-- The list tells just those that are taken: kind, slot, pid, page. -/
structure Out (n : Nat) (f : Sl) (l : List VRow) : Prop where
  at_ : ∀ v ∈ l, ∃ s : Nat, v 1 = s ∧ s < n ∧ f s = (v 2, v 3) ∧ v 2 ≠ 0
  nd : l.Pairwise fun u v => u 1 ≠ v 1
  cnt : (usedL n f).length = l.length
theorem out_new (n : Nat) : Out n empty [] := ⟨fun _ h => (by cases h), List.Pairwise.nil, usedL_none fun _ _ => rfl⟩
theorem out_push {n k : Nat} {f : Sl} {l : List VRow} {v : VRow} (o : Out n f l) (hk : k < n) (h0 : (f k).1 = 0) (hp : v 2 ≠ 0) (h1 : v 1 = k) : Out n (updS f k (v 2, v 3)) (l ++ [v]) := by
  have hne : ∀ u ∈ l, ∀ s : Nat, u 1 = s → f s = (u 2, u 3) → u 2 ≠ 0 → s ≠ k := fun u _ s _ h3 h4 e => by
    rw [← e, h3] at h0; exact h4 h0
  refine ⟨fun u hu => ?_, ?_, ?_⟩
  · rcases List.mem_append.1 hu with h | h
    · obtain ⟨s, a, b, c, d⟩ := o.at_ u h
      exact ⟨s, a, b, by rw [updS_other _ _ (hne u h s a c d)]; exact c, d⟩
    · obtain rfl := List.mem_singleton.1 h
      exact ⟨k, h1, hk, updS_same _ _ _, hp⟩
  · rw [List.pairwise_append]
    refine ⟨o.nd, List.pairwise_singleton _ _, fun u hu x hx => ?_⟩
    obtain rfl := List.mem_singleton.1 hx
    obtain ⟨s, a, b, c, d⟩ := o.at_ u hu
    have := hne u hu s a c d
    omega
  · rw [usedL_upd hk h0 _ (by simpa using hp), o.cnt, List.length_append]; rfl
theorem usedL_free {n k : Nat} {f : Sl} (hk : k < n) (h0 : (f k).1 ≠ 0) : (usedL n (updS f k (0, 0))).length + 1 = (usedL n f).length := by
  have h := usedL_upd (n := n) (f := updS f k (0, 0)) hk (by rw [updS_same]) (f k) h0
  have e : updS (updS f k (0, 0)) k (f k) = f := by
    funext j
    by_cases hj : j = k
    · subst hj; rw [updS_same]
    · rw [updS_other _ _ hj, updS_other _ _ hj]
  rw [e] at h
  omega
theorem split_at {l : List VRow} {i : Nat} {v : VRow} (hi : l[i]? = some v) : l = l.take i ++ v :: l.drop (i + 1) := by
  obtain ⟨hil, hi'⟩ := List.getElem?_eq_some_iff.1 hi
  rw [← hi', ← List.drop_eq_getElem_cons hil, List.take_append_drop]
theorem out_drop {n i s : Nat} {f : Sl} {l : List VRow} {v : VRow} (o : Out n f l) (hi : l[i]? = some v) (hs : v 1 = s) : Out n (updS f s (0, 0)) (l.take i ++ l.drop (i + 1)) := by
  have hsp := split_at hi
  have hnd := o.nd
  have hv : v ∈ l := List.mem_of_getElem? hi
  obtain ⟨s', a, b, c, d⟩ := o.at_ v hv
  obtain rfl : s = s' := by omega
  rw [hsp, List.pairwise_append, List.pairwise_cons] at hnd
  obtain ⟨n1, ⟨n2, n3⟩, n4⟩ := hnd
  refine ⟨fun u hu => ?_, ?_, ?_⟩
  · have hul : u ∈ l ∧ u 1 ≠ v 1 := by
      rcases List.mem_append.1 hu with h | h
      · exact ⟨List.mem_of_mem_take h, n4 u h v List.mem_cons_self⟩
      · exact ⟨List.mem_of_mem_drop h, fun e => n2 u h e.symm⟩
    obtain ⟨t, a', b', c', d'⟩ := o.at_ u hul.1
    exact ⟨t, a', b', by rw [updS_other _ _ (by have := hul.2; omega)]; exact c', d'⟩
  · rw [List.pairwise_append]
    exact ⟨n1, n3, fun u hu x hx => n4 u hu x (List.mem_cons_of_mem _ hx)⟩
  · have h1 := usedL_free (n := n) (f := f) (k := s) b (by rw [c]; exact d)
    have h2 : l.length = (l.take i ++ v :: l.drop (i + 1)).length := by rw [← hsp]
    rw [o.cnt] at h1
    rw [List.length_append, List.length_cons] at h2
    rw [List.length_append]
    omega
theorem out_ne {n a b : Nat} {f : Sl} {l : List VRow} {u v : VRow} (o : Out n f l) (ha : l[a]? = some u) (hb : l[b]? = some v) (h : b < a) : u 1 ≠ v 1 := by
  obtain ⟨h1, h2⟩ := List.getElem?_eq_some_iff.1 ha
  obtain ⟨h3, h4⟩ := List.getElem?_eq_some_iff.1 hb
  have := List.pairwise_iff_getElem.1 o.nd b a h3 h1 h
  rw [h2, h4] at this
  exact fun e => this e.symm
end Go.Proofs.Ytljgpiljfigojaa
