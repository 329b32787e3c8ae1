/-
  Locks that are taken by rising numbers, and freed in whatever order, on the plain table.
-/
import Derived.Test.YteafbkgaihjieaaPlain
namespace Go.Proofs.Yteafbkgaihjieaa

/-- Is bit k set? -/
def bitS (bits : Int) (k : Nat) : Bool := !((bits / 2 ^ k).tmod 2 == 0)
/-- The locks below m that the bits name are one's. -/
def riseH (bits who : Int) (m : Nat) : Hold := fun j => if j < m ∧ bitS bits j = true then who else -1
def ownL (bits : Int) (m : Nat) : List Nat := (List.range m).filter (bitS bits)

theorem bad_nat {n k : Nat} {who : Int} (h0 : 0 ≤ who) (hk : k < n) : bad n who (k : Int) = false := by
  unfold bad; simp; omega
theorem rise_zero (bits who : Int) : riseH bits who 0 = free := by funext j; unfold riseH free; rw [if_neg (by omega)]
theorem rise_skip {bits who : Int} {m : Nat} (h : bitS bits m = false) : riseH bits who (m + 1) = riseH bits who m := by
  funext j; unfold riseH
  by_cases e : j = m
  · subst e; rw [if_neg (by rw [h]; simp), if_neg (by omega)]
  · by_cases hb : j < m ∧ bitS bits j = true
    · rw [if_pos ⟨by omega, hb.2⟩, if_pos hb]
    · rw [if_neg (fun hh => hb ⟨by omega, hh.2⟩), if_neg hb]
theorem rise_take {bits who : Int} {m : Nat} (h : bitS bits m = true) : riseH bits who (m + 1) = upd (riseH bits who m) m who := by
  funext j; show riseH bits who (m + 1) j = if j = m then who else riseH bits who m j
  unfold riseH
  by_cases e : j = m
  · subst e; rw [if_pos ⟨by omega, h⟩, if_pos rfl]
  · rw [if_neg e]
    by_cases hb : j < m ∧ bitS bits j = true
    · rw [if_pos ⟨by omega, hb.2⟩, if_pos hb]
    · rw [if_neg (fun hh => hb ⟨by omega, hh.2⟩), if_neg hb]
theorem own_skip {bits : Int} {m : Nat} (h : bitS bits m = false) : ownL bits (m + 1) = ownL bits m := by
  unfold ownL; rw [List.range_succ, List.filter_append]; simp [h]
theorem own_take {bits : Int} {m : Nat} (h : bitS bits m = true) : ownL bits (m + 1) = ownL bits m ++ [m] := by
  unfold ownL; rw [List.range_succ, List.filter_append]; simp [h]
theorem own_len (bits : Int) (m : Nat) : (ownL bits m).length ≤ m := by
  unfold ownL; exact Nat.le_trans (List.length_filter_le _ _) (by simp)
theorem rise_try {bits who : Int} {m N : Nat} (h0 : 0 ≤ who) (hm : m < N) : tryF N (riseH bits who m) who (m : Int) = (true, 0, upd (riseH bits who m) m who) := by
  have hb : bad N who (m : Int) = false := by unfold bad; simp; omega
  have hab : above N (riseH bits who m) who (m : Int).toNat = false := (above_false _ _ _ _).2 fun i h1 h2 => by
    simp at h1; unfold riseH; rw [if_neg (by omega)]; omega
  have hf : riseH bits who m (m : Int).toNat = -1 := by simp [riseH]
  unfold tryF
  rw [hb, hab, if_neg (by simp), if_neg (by simp), if_pos hf]; simp
theorem rise_held {bits who : Int} (h0 : 0 ≤ who) (N : Nat) : heldF (riseH bits who N) who N = (ownL bits N).map fun (i : Nat) => (i : Int) := by
  unfold heldF ownL
  congr 1
  refine List.filter_congr fun i hi => ?_
  have hi' := List.mem_range.1 hi
  unfold riseH
  cases hb : bitS bits i
  · simp [h0]; omega
  · simp [h0, hi']

/-- What is left when those behind i, in the turned order, are not freed yet. -/
def remH (l : List Nat) (r : Nat) (who : Int) (i : Nat) : Hold := fun j => if (List.range l.length).any (fun t => decide (i ≤ t) && (l.getD ((t + r) % l.length) 0 == j)) then who else -1
theorem rem_iff (l : List Nat) (r i j : Nat) : (List.range l.length).any (fun t => decide (i ≤ t) && (l.getD ((t + r) % l.length) 0 == j)) = true ↔ ∃ t, i ≤ t ∧ t < l.length ∧ l.getD ((t + r) % l.length) 0 = j := by
  rw [List.any_eq_true]
  constructor
  · rintro ⟨t, ht, hq⟩; simp only [Bool.and_eq_true, decide_eq_true_eq, beq_iff_eq] at hq; exact ⟨t, hq.1, List.mem_range.1 ht, hq.2⟩
  · rintro ⟨t, h1, h2, h3⟩; exact ⟨t, List.mem_range.2 h2, by simp only [Bool.and_eq_true, decide_eq_true_eq, beq_iff_eq]; exact ⟨h1, h3⟩⟩
theorem turn_inj {n r a b : Nat} (ha : a < n) (hb : b < n) (hab : a ≤ b) (h : (a + r) % n = (b + r) % n) : a = b := by
  have := Nat.sub_mod_eq_zero_of_mod_eq h.symm
  rw [show b + r - (a + r) = b - a by omega, Nat.mod_eq_of_lt (by omega)] at this
  omega
theorem turn_sur {n r t : Nat} (ht : t < n) : ∃ a, a < n ∧ (a + r) % n = t := by
  have hr := Nat.mod_lt r (show 0 < n by omega)
  refine ⟨(t + n - r % n) % n, Nat.mod_lt _ (by omega), ?_⟩
  have e : r % n + n * (r / n) = r := Nat.mod_add_div r n
  rw [Nat.mod_add_mod]
  conv => lhs; rw [← e]
  rw [show t + n - (r % n + n * (r / n)) % n + (r % n + n * (r / n)) = t + n + n * (r / n) by rw [e]; omega, Nat.add_mul_mod_self_left, Nat.add_mod_right, Nat.mod_eq_of_lt ht]

theorem rem_start {bits who : Int} {N r : Nat} : riseH bits who N = remH (ownL bits N) r who 0 := by
  funext j
  unfold riseH remH
  have hm : (j < N ∧ bitS bits j = true) ↔ j ∈ ownL bits N := by unfold ownL; rw [List.mem_filter, List.mem_range]
  have : (j < N ∧ bitS bits j = true) ↔ (List.range (ownL bits N).length).any (fun t => decide (0 ≤ t) && ((ownL bits N).getD ((t + r) % (ownL bits N).length) 0 == j)) = true := by
    rw [hm, rem_iff]
    constructor
    · intro h
      obtain ⟨t, ht, he⟩ := List.mem_iff_getElem.1 h
      obtain ⟨a, ha, hat⟩ := turn_sur (r := r) ht
      exact ⟨a, Nat.zero_le _, ha, by rw [hat]; simp [List.getD, ht, he]⟩
    · rintro ⟨a, _, ha, hat⟩
      have hlt := Nat.mod_lt (a + r) (show 0 < (ownL bits N).length by omega)
      simp only [List.getD, List.getElem?_eq_getElem hlt, Option.getD_some] at hat
      rw [← hat]; exact List.getElem_mem _
  by_cases h : j < N ∧ bitS bits j = true
  · rw [if_pos h, if_pos (this.1 h)]
  · rw [if_neg h, if_neg (fun hh => h (this.2 hh))]
theorem own_nodup (bits : Int) (N : Nat) : (ownL bits N).Nodup := by
  unfold ownL; exact List.Pairwise.filter _ List.nodup_range
theorem own_lt {bits : Int} {N : Nat} {t : Nat} (ht : t < (ownL bits N).length) : (ownL bits N).getD t 0 < N := by
  have : (ownL bits N).getD t 0 ∈ ownL bits N := by simp [List.getD, ht]
  unfold ownL at this ⊢
  rw [List.mem_filter, List.mem_range] at this
  exact this.1
theorem rem_at {l : List Nat} {r : Nat} {who : Int} {i : Nat} (hi : i < l.length) : remH l r who i (l.getD ((i + r) % l.length) 0) = who := by
  unfold remH; rw [if_pos ((rem_iff _ _ _ _).2 ⟨i, Nat.le_refl _, hi, rfl⟩)]
theorem rem_next {l : List Nat} (hl : l.Nodup) {r : Nat} {who : Int} {i : Nat} (hi : i < l.length) : upd (remH l r who i) (l.getD ((i + r) % l.length) 0) (-1) = remH l r who (i + 1) := by
  funext j
  show (if j = l.getD ((i + r) % l.length) 0 then -1 else remH l r who i j) = remH l r who (i + 1) j
  unfold remH
  have hpos : 0 < l.length := by omega
  by_cases e : j = l.getD ((i + r) % l.length) 0
  · rw [if_pos e, if_neg]
    rw [rem_iff]
    rintro ⟨t, h1, h2, h3⟩
    have ha := Nat.mod_lt (i + r) hpos
    have hb := Nat.mod_lt (t + r) hpos
    rw [e] at h3
    simp only [List.getD, List.getElem?_eq_getElem ha, List.getElem?_eq_getElem hb, Option.getD_some] at h3
    have := (List.getElem_inj hl).1 h3
    have := turn_inj hi h2 (by omega) this.symm
    omega
  · rw [if_neg e]
    have : (List.range l.length).any (fun t => decide (i ≤ t) && (l.getD ((t + r) % l.length) 0 == j)) = (List.range l.length).any (fun t => decide (i + 1 ≤ t) && (l.getD ((t + r) % l.length) 0 == j)) := by
      rw [Bool.eq_iff_iff, rem_iff, rem_iff]
      constructor
      · rintro ⟨t, h1, h2, h3⟩
        refine ⟨t, ?_, h2, h3⟩
        rcases Nat.lt_or_ge i t with h | h
        · exact h
        · obtain rfl : i = t := by omega
          exact absurd h3.symm e
      · rintro ⟨t, h1, h2, h3⟩; exact ⟨t, by omega, h2, h3⟩
    rw [this]
theorem rem_end {l : List Nat} {r : Nat} {who : Int} (h0 : 0 ≤ who) (N : Nat) : heldF (remH l r who l.length) who N = [] := by
  unfold heldF
  rw [List.map_eq_nil_iff, List.filter_eq_nil_iff]
  intro j _
  have : remH l r who l.length j = -1 := by
    unfold remH; rw [if_neg]; rw [rem_iff]; rintro ⟨t, h1, h2, _⟩; omega
  rw [this]; simp; omega
theorem rem_free {l : List Nat} (hl : l.Nodup) {r N : Nat} {who : Int} (h0 : 0 ≤ who) {i : Nat} (hi : i < l.length) (hN : l.getD ((i + r) % l.length) 0 < N) :
    freeF N (remH l r who i) who ((l.getD ((i + r) % l.length) 0 : Nat) : Int) = (0, remH l r who (i + 1)) := by
  unfold freeF
  rw [bad_nat h0 hN, if_neg (by simp), Int.toNat_natCast, if_pos (rem_at hi), rem_next hl hi]
theorem rem_gone {l : List Nat} (hl : l.Nodup) {r N : Nat} {who : Int} {i : Nat} (hi : i < l.length) (hN : l.getD ((i + r) % l.length) 0 < N) :
    holderF N (remH l r who (i + 1)) ((l.getD ((i + r) % l.length) 0 : Nat) : Int) = -1 := by
  unfold holderF
  rw [bad_nat (Int.le_refl 0) hN, if_neg (by simp), Int.toNat_natCast, ← rem_next hl hi]
  unfold upd; rw [if_pos rfl]
end Go.Proofs.Yteafbkgaihjieaa
