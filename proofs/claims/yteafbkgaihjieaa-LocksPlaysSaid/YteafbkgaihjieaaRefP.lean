/-
  The document's table, plainly: a list of who holds which lock; it answers what the plain table answers. No program in sight.
-/
import Derived.Test.YteafbkgaihjieaaPlain
import Derived.WalkKit
namespace Go.Proofs.Yteafbkgaihjieaa

abbrev L2 := List (Int × Int)
/-- The list says who holds which lock. -/
structure RL (n : Nat) (h : Hold) (l : L2) : Prop where
  ok : ∀ p ∈ l, 0 ≤ p.1 ∧ p.1 ≤ 9223372036854775807 ∧ 0 ≤ p.2 ∧ p.2 < (n : Int)
  nd : l.Nodup
  iff : ∀ k : Nat, k < n → ∀ v, 0 ≤ v → (h k = v ↔ (v, (k : Int)) ∈ l)
theorem rl_new (n : Nat) : RL n free [] := ⟨fun _ hp => (by cases hp), List.nodup_nil, fun k _ v hv => (by simp [free]; omega)⟩

theorem RL.at_ {n : Nat} {h : Hold} {l : L2} (r : RL n h l) {p : Int × Int} (hp : p ∈ l) : ∃ k : Nat, k < n ∧ p.2 = k ∧ h k = p.1 := by
  obtain ⟨h1, _, h3, h4⟩ := r.ok p hp
  obtain ⟨k, hk⟩ := Int.eq_ofNat_of_zero_le h3
  refine ⟨k, by omega, hk, (r.iff k (by omega) p.1 h1).2 ?_⟩
  have hk' : p.2 = (k : Int) := hk
  rw [← hk']
  exact hp
theorem RL.above {n : Nat} {h : Hold} {l : L2} (r : RL n h l) {who : Int} (h0 : 0 ≤ who) (L : Nat) : above n h who L = true ↔ ∃ p ∈ l, p.1 = who ∧ (L : Int) ≤ p.2 := by
  rw [above_iff]
  constructor
  · rintro ⟨i, h1, h2, h3⟩
    exact ⟨(who, (i : Int)), (r.iff i h2 who h0).1 h3, rfl, by simp; omega⟩
  · rintro ⟨p, hp, h1, h2⟩
    obtain ⟨k, hk, hk2, hk3⟩ := r.at_ hp
    exact ⟨k, by omega, hk, by rw [hk3, h1]⟩
theorem RL.holder {n : Nat} {h : Hold} {l : L2} (r : RL n h l) (lock : Int) {p : Int × Int} (hp : p ∈ l) (hl : p.2 = lock) : holderF n h lock = p.1 := by
  obtain ⟨k, hk, hk2, hk3⟩ := r.at_ hp
  unfold holderF bad
  rw [if_neg (by simp; omega), ← hl, hk2, ← hk3]
  simp
theorem RL.holder_none {n : Nat} {h : Hold} {l : L2} (r : RL n h l) (ok : OkH h) (lock : Int) (hn : ∀ p ∈ l, p.2 ≠ lock) : holderF n h lock = -1 := by
  unfold holderF
  split
  · rfl
  · rename_i hb
    have hb' : bad n 0 lock = false := by simpa using hb
    unfold bad at hb'
    simp at hb'
    obtain ⟨k, rfl⟩ := Int.eq_ofNat_of_zero_le hb'.1
    have hk := ok k
    rcases Int.lt_or_le (h k) 0 with h0 | h0
    · simp; omega
    · exact absurd rfl (hn _ ((r.iff k (by omega) _ h0).1 rfl))
theorem RL.push {n : Nat} {h : Hold} {l : L2} (r : RL n h l) {who : Int} {L : Nat} (h0 : 0 ≤ who) (h1 : who ≤ 9223372036854775807) (hL : L < n) (hf : h L = -1) : RL n (upd h L who) (l ++ [(who, (L : Int))]) := by
  have hno : ∀ v, (v, (L : Int)) ∉ l := fun v hv => by
    have h2 := (r.ok _ hv).1
    have := (r.iff L hL v h2).2 hv
    simp at h2
    omega
  refine ⟨fun p hp => ?_, ?_, fun k hk v hv => ?_⟩
  · rcases List.mem_append.1 hp with h2 | h2
    · exact r.ok p h2
    · obtain rfl := List.mem_singleton.1 h2
      exact ⟨h0, h1, by simp, by simp; omega⟩
  · rw [List.nodup_append]
    refine ⟨r.nd, by simp, fun a ha b hb => ?_⟩
    obtain rfl := List.mem_singleton.1 hb
    rintro rfl
    exact hno _ ha
  · unfold upd
    rw [List.mem_append, List.mem_singleton]
    by_cases e : k = L
    · subst e
      rw [if_pos rfl]
      constructor
      · intro h2; right; rw [h2]
      · rintro (h2 | h2)
        · exact absurd h2 (hno v)
        · exact (Prod.mk.inj h2).1.symm
    · rw [if_neg e, r.iff k hk v hv]
      constructor
      · exact Or.inl
      · rintro (h2 | h2)
        · exact h2
        · exact absurd (Prod.mk.inj h2).2 (by omega)
theorem RL.drop {n : Nat} {h : Hold} {l : L2} (r : RL n h l) {who : Int} {L : Nat} (hL : L < n) {i : Nat} (hi : l[i]? = some (who, (L : Int))) : h L = who ∧ RL n (upd h L (-1)) (l.take i ++ l.drop (i + 1)) := by
  obtain ⟨hil, hi'⟩ := List.getElem?_eq_some_iff.1 hi
  have hmem : (who, (L : Int)) ∈ l := List.mem_of_getElem? hi
  have h0 := (r.ok _ hmem).1
  simp at h0
  have hw : h L = who := (r.iff L hL who h0).2 hmem
  have hsplit : l = l.take i ++ (who, (L : Int)) :: l.drop (i + 1) := by
    rw [← hi', ← List.drop_eq_getElem_cons hil, List.take_append_drop]
  have hnd := r.nd
  rw [hsplit, List.nodup_append, List.nodup_cons] at hnd
  obtain ⟨n1, ⟨n2, n3⟩, n4⟩ := hnd
  have hm : ∀ p, p ∈ l ↔ p ∈ l.take i ++ l.drop (i + 1) ∨ p = (who, (L : Int)) := fun p => by
    conv => lhs; rw [hsplit]
    rw [List.mem_append, List.mem_cons, List.mem_append]
    constructor
    · rintro (h1 | h1 | h1)
      · exact .inl (.inl h1)
      · exact .inr h1
      · exact .inl (.inr h1)
    · rintro ((h1 | h1) | h1)
      · exact .inl h1
      · exact .inr (.inr h1)
      · exact .inr (.inl h1)
  have hno : (who, (L : Int)) ∉ l.take i ++ l.drop (i + 1) := fun hh => by
    rcases List.mem_append.1 hh with h1 | h1
    · exact n4 _ h1 _ (List.mem_cons_self) rfl
    · exact n2 h1
  refine ⟨hw, ⟨fun p hp => r.ok p ((hm p).2 (.inl hp)), ?_, fun k hk v hv => ?_⟩⟩
  · rw [List.nodup_append]
    exact ⟨n1, n3, fun a ha b hb => n4 a ha b (List.mem_cons_of_mem _ hb)⟩
  · unfold upd
    by_cases e : k = L
    · subst e
      rw [if_pos rfl]
      constructor
      · intro h1; omega
      · intro h1
        have := (r.iff k hk v hv).2 ((hm _).2 (.inl h1))
        rw [hw] at this
        subst this
        exact absurd h1 hno
    · rw [if_neg e, r.iff k hk v hv, hm]
      constructor
      · rintro (h1 | h1)
        · exact h1
        · exact absurd (Prod.mk.inj h1).2 (by omega)
      · exact Or.inl

/-- The list, cell by cell. -/
def cells2 (l : L2) : List Value := l.flatMap fun p => [.int .i64 p.1, .int .i64 p.2]
theorem cells2_len (l : L2) : (cells2 l).length = l.length * 2 := by
  unfold cells2; induction l with
  | nil => rfl
  | cons p r ih => simp at ih ⊢; omega
theorem cells2_append (l r : L2) : cells2 (l ++ r) = cells2 l ++ cells2 r := by unfold cells2; rw [List.flatMap_append]
theorem cells2_at : ∀ (l : L2) (i : Nat) (p : Int × Int), l[i]? = some p → (cells2 l)[i * 2]? = some (.int .i64 p.1) ∧ (cells2 l)[i * 2 + 1]? = some (.int .i64 p.2)
  | [], i, p, h => by simp at h
  | q :: r, 0, p, h => by simp at h; subst h; exact ⟨rfl, rfl⟩
  | q :: r, i + 1, p, h => by
    have := cells2_at r i p (by simpa using h)
    unfold cells2 at this ⊢
    rw [List.flatMap_cons, show (i + 1) * 2 = i * 2 + 1 + 1 by omega]
    exact this
theorem cells2_take (l : L2) : ∀ k, (cells2 l).take (k * 2) = cells2 (l.take k) := by
  induction l with
  | nil => intro k; simp [cells2]
  | cons p r ih =>
    intro k
    cases k with
    | zero => simp [cells2]
    | succ k =>
      have := ih k
      unfold cells2 at this ⊢
      rw [List.flatMap_cons, List.take_succ_cons, List.flatMap_cons, show (k + 1) * 2 = k * 2 + 1 + 1 by omega, ← this]
      rfl
theorem cells2_drop (l : L2) : ∀ k, (cells2 l).drop (k * 2) = cells2 (l.drop k) := by
  induction l with
  | nil => intro k; simp [cells2]
  | cons p r ih =>
    intro k
    cases k with
    | zero => simp [cells2]
    | succ k =>
      have := ih k
      unfold cells2 at this ⊢
      rw [List.flatMap_cons, List.drop_succ_cons, show (k + 1) * 2 = k * 2 + 1 + 1 by omega, ← this]
      rfl
theorem cells2_one (l : L2) : ∀ u ∈ cells2 l, u.oneCell' = true := by
  intro u hu
  unfold cells2 at hu
  obtain ⟨p, _, hp⟩ := List.mem_flatMap.1 hu
  simp at hp
  rcases hp with rfl | rfl <;> rfl
end Go.Proofs.Yteafbkgaihjieaa
