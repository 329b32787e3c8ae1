/-
  The plain clock: the ring from the hand on, of each frame whether it is active, and touched; what a call answers and leaves. No program in sight.
-/
import Derived.WalkKit
namespace Go.Proofs.Ythgajdaiklfjhaa

abbrev Mk := Bool × Bool
abbrev En := Int × Mk
abbrev Rg := List En
def hasC (L : Rg) (f : Int) : Bool := L.any fun x => x.1 == f
theorem hasC_true {L : Rg} {f : Int} : hasC L f = true ↔ ∃ m, (f, m) ∈ L := by
  unfold hasC
  rw [List.any_eq_true]
  constructor
  · rintro ⟨⟨g, m⟩, h, e⟩
    simp at e
    subst e
    exact ⟨m, h⟩
  · rintro ⟨m, h⟩
    exact ⟨_, h, by simp⟩
theorem hasC_false {L : Rg} {f : Int} : hasC L f = false ↔ ∀ x ∈ L, x.1 ≠ f := by
  unfold hasC
  rw [List.any_eq_false]
  simp
def markO (L : Rg) (f : Int) : Option Mk := (L.find? fun x => x.1 == f).map Prod.snd
/-- No frame is there twice; none is below 0. -/
structure OkC (L : Rg) : Prop where
  nd : (L.map Prod.fst).Nodup
  ge : ∀ x ∈ L, 0 ≤ x.1
theorem okC_nil : OkC [] := ⟨by simp, by simp⟩
theorem OkC.one {L : Rg} (o : OkC L) {f : Int} {m m' : Mk} (h : (f, m) ∈ L) (h' : (f, m') ∈ L) : m = m' := by
  have hn := o.nd
  clear o
  induction L with
  | nil => cases h
  | cons x r ih =>
    rw [List.map_cons, List.nodup_cons] at hn
    rcases List.mem_cons.1 h with e | h1
    · rcases List.mem_cons.1 h' with e' | h1'
      · rw [← e] at e'; cases e'; rfl
      · rw [← e] at hn
        exact absurd (List.mem_map.2 ⟨_, h1', rfl⟩) hn.1
    · rcases List.mem_cons.1 h' with e' | h1'
      · rw [← e'] at hn
        exact absurd (List.mem_map.2 ⟨_, h1, rfl⟩) hn.1
      · exact ih h1 h1' hn.2
theorem markO_mem {L : Rg} {f : Int} {m : Mk} (h : markO L f = some m) : (f, m) ∈ L := by
  unfold markO at h
  rw [Option.map_eq_some_iff] at h
  obtain ⟨⟨g, m'⟩, h1, h2⟩ := h
  have h3 := List.find?_some h1
  have h4 := List.mem_of_find?_eq_some h1
  simp at h3 h2
  subst h3 h2
  exact h4
theorem markO_of {L : Rg} (o : OkC L) {f : Int} {m : Mk} (h : (f, m) ∈ L) : markO L f = some m := by
  cases hm : markO L f with
  | none =>
    unfold markO at hm
    rw [Option.map_eq_none_iff, List.find?_eq_none] at hm
    exact absurd (by simp) (hm _ h)
  | some m' => rw [o.one h (markO_mem hm)]
theorem markO_none {L : Rg} {f : Int} (h : hasC L f = false) : markO L f = none := by
  cases hm : markO L f with
  | none => rfl
  | some m => exact absurd rfl (hasC_false.1 h _ (markO_mem hm))
/-- Two rings of the same entries are marked alike. -/
theorem markO_congr {L L' : Rg} (o : OkC L) (o' : OkC L') {f g : Int} (h : ∀ m, (f, m) ∈ L ↔ (g, m) ∈ L') : markO L f = markO L' g := by
  cases h1 : markO L f with
  | some m => rw [markO_of o' ((h m).1 (markO_mem h1))]
  | none =>
    cases h2 : markO L' g with
    | none => rfl
    | some m => rw [markO_of o ((h m).2 (markO_mem h2))] at h1; cases h1
theorem markO_isSome {L : Rg} (o : OkC L) (f : Int) : (markO L f).isSome = hasC L f := by
  cases h : hasC L f with
  | false => rw [markO_none h]; rfl
  | true =>
    obtain ⟨m, hm⟩ := hasC_true.1 h
    rw [markO_of o hm]; rfl

/-! The calls. -/
def addC (L : Rg) (f : Int) : Int × Rg := if f < 0 then (2, L) else if hasC L f then (8, L) else (0, L ++ [(f, (true, true))])
def removeC (L : Rg) (f : Int) : Int × Rg := if hasC L f then (0, L.filter fun x => x.1 != f) else (7, L)
def touchE (f : Int) (x : En) : En := if x.1 = f then (x.1, (x.2.1, true)) else x
def touchC (L : Rg) (f : Int) : Int × Rg := if hasC L f then (0, L.map (touchE f)) else (7, L)
theorem touchE_fst (f : Int) (x : En) : (touchE f x).1 = x.1 := by unfold touchE; split <;> rfl
theorem touch_fst (L : Rg) (f : Int) : (L.map (touchE f)).map Prod.fst = L.map Prod.fst := by
  rw [List.map_map]
  exact List.map_congr_left fun x _ => touchE_fst f x
def decE (x : En) : En := (x.1, (x.2.2, false))
def rot : Rg → Rg
  | [] => []
  | x :: r => r ++ [decE x]
def wtE (x : En) : Nat := if x.2.2 then 2 else if x.2.1 then 1 else 0
def wt (L : Rg) : Nat := (L.map wtE).sum
theorem wt_rot (x : En) (r : Rg) (h : x.2 ≠ (false, false)) : wt (rot (x :: r)) < wt (x :: r) := by
  obtain ⟨f, a, t⟩ := x
  unfold wt rot
  rw [List.map_append, List.sum_append, List.map_cons, List.sum_cons, List.map_cons, List.map_nil, List.sum_cons, List.sum_nil]
  cases a <;> cases t <;> simp_all [wtE, decE] <;> omega
def nextN : Nat → Rg → Option Int × Rg
  | 0, L => (none, L)
  | _ + 1, [] => (none, [])
  | k + 1, x :: r => if x.2 = (false, false) then (some x.1, rot (x :: r)) else nextN k (rot (x :: r))
theorem nextN_fuel : ∀ (k : Nat) (L : Rg) (j : Nat), wt L < k → wt L < j → nextN k L = nextN j L
  | 0, _, _, h, _ => absurd h (Nat.not_lt_zero _)
  | _ + 1, _, 0, _, h => absurd h (Nat.not_lt_zero _)
  | k + 1, [], j + 1, _, _ => rfl
  | k + 1, x :: r, j + 1, h, h' => by
    unfold nextN
    split
    · rfl
    · rename_i hx
      have := wt_rot x r hx
      exact nextN_fuel k _ j (by omega) (by omega)
def nextC (L : Rg) : Option Int × Rg := nextN (wt L + 1) L
theorem nextC_nil : nextC [] = (none, []) := rfl
theorem nextC_told {x : En} (r : Rg) (h : x.2 = (false, false)) : nextC (x :: r) = (some x.1, rot (x :: r)) := by
  unfold nextC nextN
  rw [if_pos h]
theorem nextC_turn {x : En} (r : Rg) (h : x.2 ≠ (false, false)) : nextC (x :: r) = nextC (rot (x :: r)) := by
  have := wt_rot x r h
  rw [nextC, nextN, if_neg h]
  exact nextN_fuel _ _ _ (by omega) (by omega)

/-! They keep the ring in order. -/
theorem rot_fst (x : En) (r : Rg) : (rot (x :: r)).map Prod.fst = r.map Prod.fst ++ [x.1] := by simp [rot, decE]
theorem okC_rot {L : Rg} (o : OkC L) : OkC (rot L) := by
  cases L with
  | nil => exact o
  | cons x r =>
    refine ⟨?_, fun y hy => ?_⟩
    · have h := o.nd
      rw [rot_fst]
      rw [List.map_cons, List.nodup_cons] at h
      rw [List.nodup_append]
      exact ⟨h.2, by simp, fun a ha b hb => by rintro rfl; rw [List.mem_singleton] at hb; subst hb; exact h.1 ha⟩
    · unfold rot at hy
      rcases List.mem_append.1 hy with h | h
      · exact o.ge y (List.mem_cons_of_mem _ h)
      · rw [List.mem_singleton] at h; subst h; exact o.ge x List.mem_cons_self
theorem okC_add {L : Rg} (o : OkC L) {f : Int} (h0 : 0 ≤ f) (hf : hasC L f = false) (m : Mk) : OkC (L ++ [(f, m)]) := by
  refine ⟨?_, fun y hy => ?_⟩
  · rw [List.map_append, List.nodup_append]
    refine ⟨o.nd, by simp, fun a ha b hb => ?_⟩
    rintro rfl
    simp at hb
    subst hb
    obtain ⟨y, hy, e⟩ := List.mem_map.1 ha
    exact hasC_false.1 hf y hy e
  · rcases List.mem_append.1 hy with h | h
    · exact o.ge y h
    · rw [List.mem_singleton] at h; subst h; exact h0
theorem okC_filter {L : Rg} (o : OkC L) (p : En → Bool) : OkC (L.filter p) :=
  ⟨o.nd.sublist (List.filter_sublist.map _), fun y hy => o.ge y ((List.mem_filter.1 hy).1)⟩
theorem okC_touch {L : Rg} (o : OkC L) (f : Int) : OkC (L.map (touchE f)) :=
  ⟨by rw [touch_fst]; exact o.nd, fun y hy => by
    obtain ⟨x, hx, rfl⟩ := List.mem_map.1 hy
    rw [touchE_fst]; exact o.ge x hx⟩
theorem okC_addC {L : Rg} (o : OkC L) (f : Int) : OkC (addC L f).2 := by
  unfold addC
  split
  · exact o
  · split
    · exact o
    · exact okC_add o (by omega) (by simp_all) _
theorem okC_removeC {L : Rg} (o : OkC L) (f : Int) : OkC (removeC L f).2 := by
  unfold removeC
  split
  · exact okC_filter o _
  · exact o
theorem okC_touchC {L : Rg} (o : OkC L) (f : Int) : OkC (touchC L f).2 := by
  unfold touchC
  split
  · exact okC_touch o _
  · exact o
theorem len_rot (L : Rg) : (rot L).length = L.length := by cases L <;> simp [rot]
/-- A call of Next turns the ring so and so often. -/
theorem nextN_rots : ∀ (k : Nat) (L : Rg), wt L < k → L ≠ [] → ∃ j f, nextN k L = (some f, Nat.repeat rot (j + 1) L) ∧ ∃ m, (f, m) ∈ L
  | 0, _, h, _ => absurd h (Nat.not_lt_zero _)
  | k + 1, [], _, h => absurd rfl h
  | k + 1, x :: r, h, _ => by
    unfold nextN
    split
    · exact ⟨0, x.1, rfl, x.2, List.mem_cons_self⟩
    · rename_i hx
      have hw := wt_rot x r hx
      obtain ⟨j, f, h1, m, h2⟩ := nextN_rots k (rot (x :: r)) (by omega) (by simp [rot])
      have hrep : ∀ (j : Nat) (L : Rg), Nat.repeat rot j (rot L) = rot (Nat.repeat rot j L) := by
        intro j
        induction j with
        | zero => intro L; rfl
        | succ j ih => intro L; show rot (Nat.repeat rot j (rot L)) = _; rw [ih]; rfl
      refine ⟨j + 1, f, ?_, ?_⟩
      · rw [h1, hrep]; rfl
      · unfold rot at h2
        rcases List.mem_append.1 h2 with h3 | h3
        · exact ⟨m, List.mem_cons_of_mem _ h3⟩
        · rw [List.mem_singleton] at h3
          cases h3
          exact ⟨x.2, List.mem_cons_self⟩
theorem nextC_rots {L : Rg} (h : L ≠ []) : ∃ j f, nextC L = (some f, Nat.repeat rot (j + 1) L) ∧ ∃ m, (f, m) ∈ L := nextN_rots _ L (Nat.lt_succ_self _) h
theorem okC_rots {L : Rg} (o : OkC L) : ∀ j, OkC (Nat.repeat rot j L)
  | 0 => o
  | j + 1 => okC_rot (okC_rots o j)
theorem len_rots (L : Rg) : ∀ j, (Nat.repeat rot j L).length = L.length
  | 0 => rfl
  | j + 1 => by show (rot (Nat.repeat rot j L)).length = _; rw [len_rot, len_rots L j]
theorem okC_nextC {L : Rg} (o : OkC L) : OkC (nextC L).2 := by
  by_cases h : L = []
  · subst h; exact o
  · obtain ⟨j, f, h1, _⟩ := nextC_rots h
    rw [h1]; exact okC_rots o _
theorem len_nextC (L : Rg) : (nextC L).2.length = L.length := by
  by_cases h : L = []
  · subst h; rfl
  · obtain ⟨j, f, h1, _⟩ := nextC_rots h
    rw [h1]; exact len_rots _ _
theorem len_addC (L : Rg) (f : Int) : (addC L f).2.length ≤ L.length + 1 := by
  unfold addC; split <;> (try split) <;> simp
theorem len_removeC (L : Rg) (f : Int) : (removeC L f).2.length ≤ L.length := by
  unfold removeC
  split
  · exact List.length_filter_le _ _
  · exact Nat.le_refl _
theorem len_touchC (L : Rg) (f : Int) : (touchC L f).2.length = L.length := by
  unfold touchC; split <;> simp
end Go.Proofs.Ythgajdaiklfjhaa
