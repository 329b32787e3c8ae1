/-
  The plain law of who is told when some are touched. No program in sight.
-/
import Derived.Test.YthgajdaiklfjhaaLawsP
namespace Go.Proofs.Ythgajdaiklfjhaa

theorem split_first (L : Rg) (p : En → Bool) : (∀ x ∈ L, p x = true) ∨ ∃ P y S, L = P ++ y :: S ∧ (∀ x ∈ P, p x = true) ∧ p y = false := by
  induction L with
  | nil => exact .inl (by simp)
  | cons x r ih =>
    cases hx : p x with
    | false => exact .inr ⟨[], x, r, rfl, by simp, hx⟩
    | true =>
      rcases ih with h | ⟨P, y, S, rfl, h1, h2⟩
      · exact .inl fun z hz => by
          rcases List.mem_cons.1 hz with rfl | hz
          · exact hx
          · exact h z hz
      · exact .inr ⟨x :: P, y, S, rfl, fun z hz => by
          rcases List.mem_cons.1 hz with rfl | hz
          · exact hx
          · exact h1 z hz, h2⟩
theorem next_skip : ∀ (P : Rg) (y : En) (S : Rg), (∀ x ∈ P, x.2.2 = true) → y.2 = (false, false) → (nextC (P ++ y :: S)).1 = some y.1
  | [], y, S, _, h => by rw [List.nil_append, nextC_told _ h]
  | x :: P, y, S, hP, h => by
    have hx : x.2 ≠ (false, false) := by
      intro e
      have := hP x List.mem_cons_self
      rw [e] at this
      cases this
    have hr : rot (x :: (P ++ y :: S)) = P ++ y :: (S ++ [decE x]) := by simp [rot]
    rw [List.cons_append, nextC_turn _ hx, hr]
    exact next_skip P y _ (fun z hz => hP z (List.mem_cons_of_mem _ hz)) h
theorem rot_mem {L : Rg} {f : Int} : (∃ m, (f, m) ∈ rot L) ↔ ∃ m, (f, m) ∈ L := by
  cases L with
  | nil => rfl
  | cons x r =>
    show (∃ m, (f, m) ∈ r ++ [decE x]) ↔ _
    constructor
    · rintro ⟨m, h⟩
      rcases List.mem_append.1 h with h | h
      · exact ⟨m, List.mem_cons_of_mem _ h⟩
      · rw [List.mem_singleton] at h
        have : f = x.1 := congrArg Prod.fst h
        subst this
        exact ⟨x.2, List.mem_cons_self⟩
    · rintro ⟨m, h⟩
      rcases List.mem_cons.1 h with h | h
      · have : f = x.1 := congrArg Prod.fst h
        subst this
        exact ⟨_, List.mem_append_right _ (List.mem_singleton_self _)⟩
      · exact ⟨m, List.mem_append_left _ h⟩
theorem rep_mem {L : Rg} {f : Int} : ∀ j, (∃ m, (f, m) ∈ Nat.repeat rot j L) ↔ ∃ m, (f, m) ∈ L
  | 0 => Iff.rfl
  | j + 1 => rot_mem.trans (rep_mem j)
/-- What is told of a ring of which some are touched, and nobody is active. -/
structure TM (L : Rg) (M : List Int) : Prop where
  ok : OkC L
  ina : ∀ x ∈ L, x.2.1 = false
  mark : ∀ x ∈ L, (x.2.2 = true ↔ x.1 ∈ M)
theorem tm_zero {L : Rg} (o : OkC L) (h : zero L) : TM L [] :=
  ⟨o, fun x hx => by rw [h x hx], fun x hx => by rw [h x hx]; simp⟩
theorem TM.touch {L : Rg} {M : List Int} (t : TM L M) (f : Int) : TM (L.map (touchE f)) (M ++ [f]) := by
  refine ⟨okC_touch t.ok f, fun x hx => ?_, fun x hx => ?_⟩
  · obtain ⟨y, hy, rfl⟩ := List.mem_map.1 hx
    have := t.ina y hy
    unfold touchE
    split <;> exact this
  · obtain ⟨y, hy, rfl⟩ := List.mem_map.1 hx
    rw [touchE_fst, List.mem_append, List.mem_singleton]
    have := t.mark y hy
    unfold touchE
    split
    · rename_i e
      simp [e]
    · rename_i e
      rw [this]
      simp [e]
theorem told_touched {L : Rg} {M : List Int} (t : TM L M) (h0 : L ≠ []) : ∃ f L', nextC L = (some f, L') ∧ L'.length = L.length ∧ (∀ g, hasC L' g = hasC L g) ∧ hasC L f = true ∧ (f ∈ M → ∀ x ∈ L, x.1 ∈ M) := by
  obtain ⟨j, f, h1, m, h2⟩ := nextC_rots h0
  refine ⟨f, _, h1, len_rots _ _, fun g => ?_, hasC_true.2 ⟨m, h2⟩, fun hf => ?_⟩
  · rw [Bool.eq_iff_iff, hasC_true, hasC_true]
    exact rep_mem _
  · rcases split_first L (fun x => x.2.2) with h | ⟨P, y, S, hL, hP, hy⟩
    · exact fun x hx => (t.mark x hx).1 (h x hx)
    · have hyL : y ∈ L := by rw [hL]; exact List.mem_append_right _ List.mem_cons_self
      have hy0 : y.2 = (false, false) := Prod.ext (t.ina y hyL) hy
      have := next_skip P y S hP hy0
      rw [← hL, h1] at this
      have hfy : f = y.1 := Option.some.inj this
      rw [hfy] at hf
      have := (t.mark y hyL).2 hf
      rw [hy] at this
      cases this
/-- Behind the loop over all: either the one that was told is not touched, or all are. -/
def allB (M : List Int) (pre : List Int) : Bool := pre.all fun x => M.contains x
def ownB (M : List Int) (f : Int) (pre : List Int) : Bool := pre.any fun x => M.contains x && x == f
theorem allB_snoc (M pre : List Int) (x : Int) : allB M (pre ++ [x]) = (allB M pre && M.contains x) := by simp [allB]
theorem ownB_snoc (M : List Int) (f : Int) (pre : List Int) (x : Int) : ownB M f (pre ++ [x]) = (ownB M f pre || (M.contains x && x == f)) := by simp [ownB]
theorem own_all {L L' : Rg} {M : List Int} {f : Int} (hh : ∀ g, hasC L' g = hasC L g) (h : f ∈ M → ∀ x ∈ L, x.1 ∈ M) : (!ownB M f (L'.map Prod.fst) || allB M (L'.map Prod.fst)) = true := by
  cases ho : ownB M f (L'.map Prod.fst) with
  | false => rfl
  | true =>
    unfold ownB at ho
    rw [List.any_eq_true] at ho
    obtain ⟨x, _, hx⟩ := ho
    rw [Bool.and_eq_true, beq_iff_eq] at hx
    obtain ⟨h1, rfl⟩ := hx
    have h2 := h (by simpa using h1)
    show (false || _) = true
    rw [Bool.false_or]
    unfold allB
    rw [List.all_eq_true]
    intro y hy
    obtain ⟨⟨z, m⟩, hz, rfl⟩ := List.mem_map.1 hy
    have h3 : hasC L z = true := by rw [← hh z]; exact hasC_true.2 ⟨m, hz⟩
    obtain ⟨m', h4⟩ := hasC_true.1 h3
    simpa using h2 _ h4
end Go.Proofs.Ythgajdaiklfjhaa
