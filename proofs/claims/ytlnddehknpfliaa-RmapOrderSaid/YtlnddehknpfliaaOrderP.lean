/-
  The plain law of RmapOrder: sets of frames and pages that are all unlike, in whatever order, leave the same.
-/
import Derived.Test.YtlnddehknpfliaaKnown
namespace Go.Proofs.Ytlnddehknpfliaa

def okV (n : Nat) (V : Nat → Nat → Int) (j : Nat) : Prop := badI n (V j 1) = false ∧ mayB (V j 2, V j 3) = true
def Unlike (V : Nat → Nat → Int) (m : Nat) : Prop := ∀ i k, i < m → k < m → i ≠ k → V i 1 ≠ V k 1 ∧ ¬ (V i 2 = V k 2 ∧ V i 3 = V k 3)
/-- What the ops of S leave. -/
structure Holds (n : Nat) (V : Nat → Nat → Int) (S : Nat → Prop) (f : Fr) : Prop where
  put : ∀ j, S j → okV n V j → f (V j 1).toNat = (V j 2, V j 3)
  of_ : ∀ k, k < n → f k ≠ (0, 0) → ∃ j, S j ∧ okV n V j ∧ V j 1 = (k : Int) ∧ f k = (V j 2, V j 3)
theorem Holds.congr {n : Nat} {V : Nat → Nat → Int} {S S' : Nat → Prop} {f : Fr} (h : Holds n V S f) (e : ∀ j, S j ↔ S' j) : Holds n V S' f :=
  ⟨fun j hj => h.put j ((e j).2 hj), fun k hk hf => by obtain ⟨j, h1, h2⟩ := h.of_ k hk hf; exact ⟨j, (e j).1 h1, h2⟩⟩
theorem holds_none (n : Nat) (V : Nat → Nat → Int) {S : Nat → Prop} (h : ∀ j, ¬ S j) : Holds n V S none0 := ⟨fun j hj => absurd hj (h j), fun k _ hf => absurd rfl hf⟩
theorem holds_same {n m : Nat} {V : Nat → Nat → Int} {f g : Fr} (h : Holds n V (· < m) f) (k : Holds n V (· < m) g) : ∀ i, i < n → f i = g i := by
  have one : ∀ {f g : Fr}, Holds n V (· < m) f → Holds n V (· < m) g → ∀ i, i < n → f i ≠ (0, 0) → f i = g i := fun {f g} h k i hi hf => by
    obtain ⟨j, h1, h2, h3, h4⟩ := h.of_ i hi hf
    have := k.put j h1 h2
    rw [h3] at this
    rw [h4]; simpa using this.symm
  intro i hi
  by_cases h1 : f i = (0, 0)
  · by_cases h2 : g i = (0, 0)
    · rw [h1, h2]
    · exact (one k h i hi h2).symm
  · exact one h k i hi h1
theorem step_set {n m : Nat} {V : Nat → Nat → Int} {S : Nat → Prop} {f : Fr} (o : OkF n f) (h : Holds n V S f) (u : Unlike V m) {j : Nat} (hj : j < m) (hS : ∀ i, S i → i < m ∧ i ≠ j) :
    ∃ e f', setF n f (V j 1) (V j 2, V j 3) = (e, f') ∧ Holds n V (fun i => S i ∨ i = j) f' ∧
      (e = 2 ∨ (e = 0 ∧ ∃ g, clearF n f' (V j 1) = (0, g) ∧ setF n g (V j 1) (V j 2, V j 3) = (0, f'))) := by
  by_cases hok : okV n V j
  · obtain ⟨h1, h2⟩ := hok
    obtain ⟨b1, b2⟩ := badI_false h1
    obtain ⟨k, hk⟩ := Int.eq_ofNat_of_zero_le b1
    have hkn : k < n := by omega
    have hm := mayB_true h2
    have hf0 : f k = (0, 0) := by
      by_cases hc : f k = (0, 0)
      · exact hc
      · obtain ⟨i, i1, i2, i3, _⟩ := h.of_ k hkn hc
        exact absurd (i3.trans hk.symm) (u i j (hS i i1).1 hj (hS i i1).2).1
    have hfind : findO n f (V j 2, V j 3) = none := by
      cases hc : findO n f (V j 2, V j 3) with
      | none => rfl
      | some q =>
        obtain ⟨q1, q2, q3⟩ := findO_some hc
        obtain ⟨i, i1, _, _, i4⟩ := h.of_ q q1 (by rw [q2]; intro e; exact q3 (congrArg Prod.fst e))
        rw [q2] at i4
        exact absurd ⟨(congrArg Prod.fst i4).symm, (congrArg Prod.snd i4).symm⟩ (u i j (hS i i1).1 hj (hS i i1).2).2
    have hback : updF (updF f k (V j 2, V j 3)) k (0, 0) = f := by
      funext x
      by_cases e : x = k
      · subst e; rw [updF_same, hf0]
      · rw [updF_other _ _ e, updF_other _ _ e]
    have e1 : setF n f (V j 1) (V j 2, V j 3) = (0, updF f k (V j 2, V j 3)) := by
      rw [hk]; exact setF_at h2 hkn (by rw [hf0]) hfind
    refine ⟨0, updF f k (V j 2, V j 3), e1, ⟨fun i hi hv => ?_, fun x hx hf => ?_⟩, .inr ⟨rfl, f, ?_, e1⟩⟩
    · rcases hi with hi | rfl
      · have hne := (u i j (hS i hi).1 hj (hS i hi).2).1
        have hb := badI_false hv.1
        rw [updF_other _ _ (by omega)]
        exact h.put i hi hv
      · rw [hk, Int.toNat_natCast, updF_same]
    · by_cases e : x = k
      · subst e
        exact ⟨j, .inr rfl, ⟨h1, h2⟩, hk, by rw [updF_same]⟩
      · rw [updF_other _ _ e] at hf ⊢
        obtain ⟨i, i1, i2, i3, i4⟩ := h.of_ x hx hf
        exact ⟨i, .inl i1, i2, i3, i4⟩
    · rw [hk, clearF_at hkn (by rw [updF_same]; simp only; omega), hback]
  · have e1 : setF n f (V j 1) (V j 2, V j 3) = (2, f) := by
      unfold setF
      cases h1 : badI n (V j 1) with
      | true => rfl
      | false =>
        cases h2 : mayB (V j 2, V j 3) with
        | false => rfl
        | true => exact absurd ⟨h1, h2⟩ hok
    refine ⟨2, f, e1, ⟨fun i hi hv => ?_, fun x hx hf => ?_⟩, .inl rfl⟩
    · rcases hi with hi | rfl
      · exact h.put i hi hv
      · exact absurd hv hok
    · obtain ⟨i, i1, i2⟩ := h.of_ x hx hf
      exact ⟨i, .inl i1, i2⟩
end Go.Proofs.Ytlnddehknpfliaa
