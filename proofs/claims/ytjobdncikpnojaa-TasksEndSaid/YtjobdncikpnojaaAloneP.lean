/-
  A program alone: its steps all go on, and what it tells. No program in sight.
-/
import Derived.Test.YtjobdncikpnojaaStep
namespace Go.Proofs.Ytjobdncikpnojaa
/-- A lock told by a number. -/
def lk8 (n : Int) : Int := n % 8
theorem lk8_range (n : Int) : 0 ≤ lk8 n ∧ lk8 n < 8 := by unfold lk8; omega
def blockA (n : Int) : List (Int × Int) := [(1, lk8 n), (3, lk8 n), (2, lk8 n), (0, 0)]
def actsA (P : List Int) : List (Int × Int) := P.flatMap blockA
theorem actsA_snoc (P : List Int) (n : Int) : actsA (P ++ [n]) = actsA P ++ blockA n := by simp [actsA]
theorem actsA_cons (n : Int) (P : List Int) : actsA (n :: P) = (1, lk8 n) :: (3, lk8 n) :: (2, lk8 n) :: (0, 0) :: actsA P := by simp [actsA, blockA]
theorem actsA_len (P : List Int) : (actsA P).length = 4 * P.length := by
  induction P with
  | nil => rfl
  | cons n r ih => rw [actsA_cons]; simp [ih]; omega
/-- The locks and what is told, behind some acts that all go on. -/
def foldS (who : Int) : Lk.Hold × List (Int × Int) → List (Int × Int) → Lk.Hold × List (Int × Int)
  | s, [] => s
  | s, x :: r => foldS who ((stepF who s.1 x).2.1, s.2 ++ (stepF who s.1 x).2.2) r
theorem foldS_snoc (who : Int) : ∀ (s : Lk.Hold × List (Int × Int)) (l : List (Int × Int)) (x : Int × Int), foldS who s (l ++ [x]) = ((stepF who (foldS who s l).1 x).2.1, (foldS who s l).2 ++ (stepF who (foldS who s l).1 x).2.2)
  | s, [], x => rfl
  | s, y :: r, x => foldS_snoc who _ r x
theorem step_lock {n : Int} : stepF 0 Lk.free (1, lk8 n) = (2, Lk.upd Lk.free (lk8 n).toNat 0, []) := by
  have h := lk8_range n
  have hb : Lk.bad 8 0 (lk8 n) = false := by unfold Lk.bad; simp; omega
  have ha : Lk.above 8 Lk.free 0 (lk8 n).toNat = false := (Lk.above_false _ _ _ _).2 fun i _ _ => by unfold Lk.free; decide
  have ht : Lk.tryF 8 Lk.free 0 (lk8 n) = (true, 0, Lk.upd Lk.free (lk8 n).toNat 0) := by
    unfold Lk.tryF
    rw [hb, ha]
    simp [Lk.free]
  unfold stepF
  simp [ht]
theorem step_tell (h : Lk.Hold) (n : Int) : stepF 0 h (3, lk8 n) = (2, h, [(0, lk8 n)]) := by unfold stepF; simp
theorem step_none (h : Lk.Hold) : stepF 0 h (0, 0) = (2, h, []) := by unfold stepF; simp
theorem step_unlock {n : Int} : stepF 0 (Lk.upd Lk.free (lk8 n).toNat 0) (2, lk8 n) = (2, Lk.free, []) := by
  have h := lk8_range n
  have hb : Lk.bad 8 0 (lk8 n) = false := by unfold Lk.bad; simp; omega
  have hu : Lk.upd (Lk.upd Lk.free (lk8 n).toNat 0) (lk8 n).toNat (-1) = Lk.free := by
    funext j
    unfold Lk.upd Lk.free
    split <;> simp
  have ht : Lk.freeF 8 (Lk.upd Lk.free (lk8 n).toNat 0) 0 (lk8 n) = (0, Lk.free) := by
    unfold Lk.freeF
    rw [hb, hu]
    simp [Lk.upd]
  unfold stepF
  simp [ht]
theorem fold_block (t : List (Int × Int)) (n : Int) (r : List (Int × Int)) : foldS 0 (Lk.free, t) ((1, lk8 n) :: (3, lk8 n) :: (2, lk8 n) :: (0, 0) :: r) = foldS 0 (Lk.free, t ++ [(0, lk8 n)]) r := by
  simp only [foldS, step_lock, step_tell, step_unlock, step_none, List.append_nil]
theorem alone_told : ∀ (P : List Int) (t : List (Int × Int)), foldS 0 (Lk.free, t) (actsA P) = (Lk.free, t ++ P.map fun n => (0, lk8 n))
  | [], t => by simp [actsA, foldS]
  | n :: r, t => by
    rw [actsA_cons, fold_block, alone_told r]
    simp
/-- Each step goes on. -/
theorem alone_on : ∀ (P : List Int) (t : List (Int × Int)) (i : Nat) (x : Int × Int), (actsA P)[i]? = some x → (stepF 0 (foldS 0 (Lk.free, t) ((actsA P).take i)).1 x).1 = 2
  | [], t, i, x, h => by simp [actsA] at h
  | n :: r, t, i, x, h => by
    rw [actsA_cons] at h ⊢
    match i, h with
    | 0, h => simp at h; subst h; simp [foldS, step_lock]
    | 1, h => simp at h; subst h; simp [foldS, step_lock, step_tell]
    | 2, h => simp at h; subst h; simp [foldS, step_lock, step_tell, step_unlock]
    | 3, h => simp at h; subst h; simp [foldS, step_lock, step_tell, step_unlock, step_none]
    | i + 4, h =>
      have h' : (actsA r)[i]? = some x := by simpa using h
      have := alone_on r (t ++ [(0, lk8 n)]) i x h'
      rw [show ((1, lk8 n) :: (3, lk8 n) :: (2, lk8 n) :: (0, 0) :: actsA r).take (i + 4) = (1, lk8 n) :: (3, lk8 n) :: (2, lk8 n) :: (0, 0) :: (actsA r).take i by simp, fold_block]
      exact this
theorem alone_len (P : List Int) (l : List (Int × Int)) : ∀ t : List (Int × Int), (foldS 0 (Lk.free, t) l).2.length ≤ t.length + l.length := by
  intro t
  generalize Lk.free = h
  induction l generalizing h t with
  | nil => simp [foldS]
  | cons x r ih =>
    have := ih (t ++ (stepF 0 h x).2.2) (stepF 0 h x).2.1
    have h2 : (stepF 0 h x).2.2.length ≤ 1 := by
      unfold stepF
      split
      · simp
      · split
        · simp
        · split <;> simp
    show (foldS 0 ((stepF 0 h x).2.1, t ++ (stepF 0 h x).2.2) r).2.length ≤ _
    simp at this ⊢
    omega
end Go.Proofs.Ytjobdncikpnojaa
