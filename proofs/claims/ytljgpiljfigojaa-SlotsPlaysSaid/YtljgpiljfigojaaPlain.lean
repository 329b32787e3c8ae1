/-
  The plain slots: whose each one is (pid 0: nobody's), and what a take, a free, an owner, a count answer and leave. No program in sight.
-/
namespace Go.Proofs.Ytljgpiljfigojaa

abbrev Sl := Nat → Int × Int
def updS (f : Sl) (k : Nat) (v : Int × Int) : Sl := fun j => if j = k then v else f j
def OkS (f : Sl) : Prop := ∀ k, 0 ≤ (f k).1 ∧ (f k).1 ≤ 8 ∧ 0 ≤ (f k).2 ∧ (f k).2 ≤ 1023 ∧ ((f k).1 = 0 → (f k).2 = 0)
def empty : Sl := fun _ => (0, 0)
theorem okS_empty : OkS empty := fun _ => by simp [empty]
theorem okS_upd {f : Sl} (o : OkS f) (k : Nat) {v : Int × Int} (h : 0 ≤ v.1 ∧ v.1 ≤ 8 ∧ 0 ≤ v.2 ∧ v.2 ≤ 1023 ∧ (v.1 = 0 → v.2 = 0)) : OkS (updS f k v) := fun j => by
  unfold updS; split
  · exact h
  · exact o j
theorem updS_same (f : Sl) (k : Nat) (v : Int × Int) : updS f k v k = v := by unfold updS; rw [if_pos rfl]
theorem updS_other (f : Sl) {k j : Nat} (v : Int × Int) (h : j ≠ k) : updS f k v j = f j := by unfold updS; rw [if_neg h]

def mayB (pid page : Int) : Bool := decide (1 ≤ pid) && decide (pid ≤ 8) && decide (0 ≤ page) && decide (page ≤ 1023)
theorem mayB_true {pid page : Int} (h : mayB pid page = true) : 1 ≤ pid ∧ pid ≤ 8 ∧ 0 ≤ page ∧ page ≤ 1023 := by unfold mayB at h; simp at h; omega
theorem mayB_false {pid page : Int} (h : mayB pid page = false) : pid < 1 ∨ (1 ≤ pid ∧ 8 < pid) ∨ (1 ≤ pid ∧ pid ≤ 8 ∧ page < 0) ∨ (1 ≤ pid ∧ pid ≤ 8 ∧ 0 ≤ page ∧ 1024 ≤ page) := by
  unfold mayB at h; simp at h; omega
def badI (n : Nat) (i : Int) : Bool := decide (i < 0) || decide ((n : Int) ≤ i)
theorem badI_false {n : Nat} {i : Int} (h : badI n i = false) : 0 ≤ i ∧ i < n := by unfold badI at h; simp at h; omega
theorem badI_true {n : Nat} {i : Int} (h : badI n i = true) : i < 0 ∨ (0 ≤ i ∧ (n : Int) ≤ i) := by unfold badI at h; simp at h; omega
theorem badI_nat {n k : Nat} (h : k < n) : badI n (k : Int) = false := by unfold badI; simp; omega

/-- The least free slot; -1: there is none. -/
def leastI (n : Nat) (f : Sl) : Int := match (List.range n).find? (fun k => (f k).1 == 0) with
  | some k => (k : Int)
  | none => -1
theorem leastI_at {n k : Nat} {f : Sl} (hk : k < n) (h0 : (f k).1 = 0) (hb : ∀ j, j < k → (f j).1 ≠ 0) : leastI n f = k := by
  have : (List.range n).find? (fun k => (f k).1 == 0) = some k := by
    rw [List.find?_range_eq_some]
    exact ⟨by simp [h0], by simpa using hk, fun j hj => by simpa using hb j hj⟩
  unfold leastI; rw [this]
theorem leastI_none {n : Nat} {f : Sl} (hb : ∀ j, j < n → (f j).1 ≠ 0) : leastI n f = -1 := by
  have : (List.range n).find? (fun k => (f k).1 == 0) = none := by
    rw [List.find?_eq_none]
    intro j hj
    have := hb j (by simpa using hj)
    simpa using this
  unfold leastI; rw [this]
theorem leastI_cases (n : Nat) (f : Sl) : (∃ k, k < n ∧ leastI n f = k ∧ (f k).1 = 0 ∧ ∀ j, j < k → (f j).1 ≠ 0) ∨ (leastI n f = -1 ∧ ∀ j, j < n → (f j).1 ≠ 0) := by
  by_cases h : ∃ k, k < n ∧ (f k).1 = 0
  · left
    have key : ∀ m, (∃ k, k < m ∧ (f k).1 = 0) → ∃ k, k < m ∧ (f k).1 = 0 ∧ ∀ j, j < k → (f j).1 ≠ 0 := by
      intro m
      induction m with
      | zero => rintro ⟨k, hk, _⟩; omega
      | succ m ih =>
        rintro ⟨k, hk, h0⟩
        by_cases hm : ∃ k, k < m ∧ (f k).1 = 0
        · obtain ⟨k', a, b, c⟩ := ih hm
          exact ⟨k', by omega, b, c⟩
        · have hkm : k = m := by
            rcases Nat.lt_or_ge k m with h1 | h1
            · exact absurd ⟨k, h1, h0⟩ hm
            · omega
          subst hkm
          exact ⟨k, by omega, h0, fun j hj e => hm ⟨j, hj, e⟩⟩
    obtain ⟨k, a, b, c⟩ := key n h
    exact ⟨k, a, leastI_at a b c, b, c⟩
  · right
    have hb : ∀ j, j < n → (f j).1 ≠ 0 := fun j hj e => h ⟨j, hj, e⟩
    exact ⟨leastI_none hb, hb⟩

/-- A take: the slot, the errno, what is left. -/
def takeF (n : Nat) (f : Sl) (pid page : Int) : Int × Int × Sl :=
  if mayB pid page = false then (0, 2, f) else
  if leastI n f < 0 then (0, 9, f) else (leastI n f, 0, updS f (leastI n f).toNat (pid, page))
/-- A free: the errno, what is left. -/
def freeF (n : Nat) (f : Sl) (slot : Int) : Int × Sl :=
  if badI n slot then (2, f) else if (f slot.toNat).1 = 0 then (7, f) else (0, updS f slot.toNat (0, 0))
def ownerF (n : Nat) (f : Sl) (slot : Int) : Int × Int := if badI n slot then (0, 0) else f slot.toNat
/-- Those that are taken, rising. -/
def usedL (n : Nat) (f : Sl) : List Nat := (List.range n).filter fun k => (f k).1 != 0
theorem okS_take {n : Nat} {f : Sl} (o : OkS f) (pid page : Int) : OkS (takeF n f pid page).2.2 := by
  unfold takeF
  split
  · exact o
  · rename_i h
    split
    · exact o
    · have := mayB_true (by simpa using h)
      exact okS_upd o _ ⟨by omega, by omega, by omega, by omega, by intro h; simp at h; omega⟩
theorem okS_free {n : Nat} {f : Sl} (o : OkS f) (slot : Int) : OkS (freeF n f slot).2 := by
  unfold freeF
  split
  · exact o
  · split
    · exact o
    · exact okS_upd o _ (by simp)
theorem usedL_succ (n : Nat) (f : Sl) : usedL (n + 1) f = usedL n f ++ if (f n).1 = 0 then [] else [n] := by
  unfold usedL
  rw [List.range_succ, List.filter_append]
  congr 1
  by_cases h : (f n).1 = 0 <;> simp [h]
theorem usedL_le (n : Nat) (f : Sl) : (usedL n f).length ≤ n := by
  unfold usedL
  have := List.length_filter_le (fun k => (f k).1 != 0) (List.range n)
  simpa using this
theorem usedL_lt {n : Nat} {f : Sl} {k : Nat} (h : k ∈ usedL n f) : k < n := by
  unfold usedL at h; simp at h; exact h.1
end Go.Proofs.Ytljgpiljfigojaa
