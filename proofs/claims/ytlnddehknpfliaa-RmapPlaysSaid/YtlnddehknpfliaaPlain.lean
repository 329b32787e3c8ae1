/-
  The plain map of frames: whose each one is (pid 0: nobody's), and what a set, a clear, a get answer and leave. No program in sight.
-/
import Derived.WalkKit
namespace Go.Proofs.Ytlnddehknpfliaa

abbrev Pg := Int × Int
abbrev Fr := Nat → Pg
def updF (f : Fr) (k : Nat) (v : Pg) : Fr := fun j => if j = k then v else f j
theorem updF_same (f : Fr) (k : Nat) (v : Pg) : updF f k v k = v := by unfold updF; rw [if_pos rfl]
theorem updF_other (f : Fr) {k j : Nat} (v : Pg) (h : j ≠ k) : updF f k v j = f j := by unfold updF; rw [if_neg h]
def none0 : Fr := fun _ => (0, 0)
def mayB (p : Pg) : Bool := decide (1 ≤ p.1) && decide (p.1 ≤ 8) && decide (0 ≤ p.2) && decide (p.2 ≤ 1023)
theorem mayB_true {p : Pg} (h : mayB p = true) : 1 ≤ p.1 ∧ p.1 ≤ 8 ∧ 0 ≤ p.2 ∧ p.2 ≤ 1023 := by unfold mayB at h; simp at h; omega
theorem mayB_false {p : Pg} (h : mayB p = false) : p.1 < 1 ∨ (1 ≤ p.1 ∧ 8 < p.1) ∨ (1 ≤ p.1 ∧ p.1 ≤ 8 ∧ p.2 < 0) ∨ (1 ≤ p.1 ∧ p.1 ≤ 8 ∧ 0 ≤ p.2 ∧ 1024 ≤ p.2) := by
  unfold mayB at h; simp at h; omega
def badI (n : Nat) (i : Int) : Bool := decide (i < 0) || decide ((n : Int) ≤ i)
theorem badI_false {n : Nat} {i : Int} (h : badI n i = false) : 0 ≤ i ∧ i < n := by unfold badI at h; simp at h; omega
theorem badI_true {n : Nat} {i : Int} (h : badI n i = true) : i < 0 ∨ (0 ≤ i ∧ (n : Int) ≤ i) := by unfold badI at h; simp at h; omega
theorem badI_nat {n k : Nat} (h : k < n) : badI n (k : Int) = false := by unfold badI; simp; omega

/-- Each frame is nobody's, or a page's that may be; no page has two. -/
structure OkF (n : Nat) (f : Fr) : Prop where
  may : ∀ k, k < n → f k = (0, 0) ∨ mayB (f k) = true
  inj : ∀ j k, j < n → k < n → f j = f k → (f k).1 ≠ 0 → j = k
theorem okF_none (n : Nat) : OkF n none0 := ⟨fun _ _ => .inl rfl, fun j k _ _ _ h => absurd rfl h⟩
theorem OkF.zero {n : Nat} {f : Fr} (o : OkF n f) {k : Nat} (hk : k < n) : (f k).1 = 0 ↔ f k = (0, 0) := by
  constructor
  · intro h
    rcases o.may k hk with h1 | h1
    · exact h1
    · have := mayB_true h1; omega
  · intro h; rw [h]

/-- The frame of a page; nothing: it has none. -/
def findO (n : Nat) (f : Fr) (p : Pg) : Option Nat := (List.range n).find? fun k => f k == p && p.1 != 0
theorem findO_some {n : Nat} {f : Fr} {p : Pg} {k : Nat} (h : findO n f p = some k) : k < n ∧ f k = p ∧ p.1 ≠ 0 := by
  unfold findO at h
  have h1 := List.find?_some h
  have h2 := List.mem_of_find?_eq_some h
  simp at h1 h2
  exact ⟨h2, h1.1, h1.2⟩
theorem findO_none {n : Nat} {f : Fr} {p : Pg} (h : findO n f p = none) : ∀ k, k < n → p.1 ≠ 0 → f k ≠ p := by
  intro k hk hp e
  unfold findO at h
  rw [List.find?_eq_none] at h
  have := h k (by simpa using hk)
  simp [e] at this
  exact hp this
theorem findO_at {n : Nat} {f : Fr} (o : OkF n f) {k : Nat} (hk : k < n) (h0 : (f k).1 ≠ 0) : findO n f (f k) = some k := by
  cases h : findO n f (f k) with
  | none => exact absurd rfl (findO_none h k hk h0)
  | some j =>
    obtain ⟨h1, h2, _⟩ := findO_some h
    rw [o.inj j k h1 hk h2 h0]

/-- A set: the errno, what is left. -/
def setF (n : Nat) (f : Fr) (frame : Int) (p : Pg) : Int × Fr :=
  if badI n frame then (2, f) else if mayB p = false then (2, f) else if (f frame.toNat).1 ≠ 0 then (80, f) else
  if (findO n f p).isSome then (8, f) else (0, updF f frame.toNat p)
/-- A clear. -/
def clearF (n : Nat) (f : Fr) (frame : Int) : Int × Fr :=
  if badI n frame then (2, f) else if (f frame.toNat).1 = 0 then (7, f) else (0, updF f frame.toNat (0, 0))
def getF (n : Nat) (f : Fr) (frame : Int) : Pg := if badI n frame then (0, 0) else f frame.toNat
theorem okF_set {n : Nat} {f : Fr} (o : OkF n f) {k : Nat} {p : Pg} (hk : k < n) (hp : mayB p = true) (hf : findO n f p = none) : OkF n (updF f k p) := by
  have hp1 := mayB_true hp
  refine ⟨fun j hj => ?_, fun i j hi hj e h0 => ?_⟩
  · by_cases e : j = k
    · subst e; rw [updF_same]; exact .inr hp
    · rw [updF_other _ _ e]; exact o.may j hj
  · by_cases ei : i = k
    · by_cases ej : j = k
      · omega
      · subst ei
        rw [updF_same, updF_other _ _ ej] at e
        exact absurd e.symm (findO_none hf j hj (by omega))
    · by_cases ej : j = k
      · subst ej
        rw [updF_same, updF_other _ _ ei] at e
        exact absurd e (findO_none hf i hi (by omega))
      · rw [updF_other _ _ ei, updF_other _ _ ej] at e
        rw [updF_other _ _ ej] at h0
        exact o.inj i j hi hj e h0
theorem okF_clear {n : Nat} {f : Fr} (o : OkF n f) (k : Nat) : OkF n (updF f k (0, 0)) := by
  refine ⟨fun j hj => ?_, fun i j hi hj e h0 => ?_⟩
  · by_cases e : j = k
    · subst e; rw [updF_same]; exact .inl rfl
    · rw [updF_other _ _ e]; exact o.may j hj
  · have ej : j ≠ k := by rintro rfl; rw [updF_same] at h0; exact h0 rfl
    have ei : i ≠ k := by
      rintro rfl
      rw [updF_same, updF_other _ _ ej] at e
      rw [updF_other _ _ ej, ← e] at h0
      exact h0 rfl
    rw [updF_other _ _ ei, updF_other _ _ ej] at e
    rw [updF_other _ _ ej] at h0
    exact o.inj i j hi hj e h0
end Go.Proofs.Ytlnddehknpfliaa
