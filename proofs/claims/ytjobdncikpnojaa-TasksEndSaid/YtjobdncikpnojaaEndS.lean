/-
  Programs that take locks one after the other, run by the model: the start of each, and a turn of each.
-/
import Derived.Test.YtjobdncikpnojaaAlone
import Derived.Test.YtjobdncikpnojaaEndP
namespace Go.Proofs.Ytjobdncikpnojaa
open Go.RowKit
section
variable {w0 w w' : World} {T B n Z K TB : Nat} {Q : Nat → List Int}
/-- The first i have been started. -/
def StartAt (w0 w : World) (T B n Z K TB : Nat) (Q : Nat → List Int) (i : Nat) : Prop :=
  ∃ nx, SW w0 w T B n nx (fun _ => 0) Z K TB Lk.free none 0 TB [] ∧ ∀ j, j < n → PB w K TB (j : Int) (nx j) (if j < i then actsE (Q j) else [])
theorem StartAt.below {i : Nat} (s : StartAt w0 w T B n Z K TB Q i) (k : Below w.heap.size w w') : StartAt w0 w' T B n Z K TB Q i := by
  obtain ⟨nx, sw, hp⟩ := s
  exact ⟨nx, sw.below k, fun j hj => (hp j hj).keep (keepT_below k)⟩
theorem StartAt.skip {i : Nat} (s : StartAt w0 w T B n Z K TB Q i) (hq : (Q i).length = 0) : StartAt w0 w T B n Z K TB Q (i + 1) := by
  obtain ⟨nx, sw, hp⟩ := s
  refine ⟨nx, sw, fun j hj => ?_⟩
  have h := hp j hj
  by_cases h1 : j < i
  · rw [if_pos h1] at h
    rw [if_pos (by omega)]
    exact h
  · rw [if_neg h1] at h
    by_cases h2 : j = i
    · subst h2
      rw [if_pos (by omega), List.eq_nil_of_length_eq_zero hq]
      exact h
    · rw [if_neg (by omega)]
      exact h
theorem StartAt.start {i : Nat} (s : StartAt w0 w T B n Z K TB Q i) (hi : i < n) {v : Value} (hp : PB w K TB (i : Int) v (actsE (Q i))) (hq : 0 < (Q i).length) :
    Calls Try.prog 9 #[ptr T, .int .i64 (i : Int), v] w fun e w' => e = .returned (.int .i64 0) ∧ StartAt w0 w' T B n Z K TB Q (i + 1) := by
  obtain ⟨nx, sw, hps⟩ := s
  obtain ⟨a, b, c, rfl⟩ := hp.func (by rw [actsE_len]; omega)
  have hn : nx i = .nilFunc := by
    have := hps i hi
    rw [if_neg (by omega)] at this
    exact this
  refine (start_ok sw.tt i hi a b c hn).mono ?_
  rintro e w' ⟨rfl, rfl⟩
  obtain ⟨s2, k2⟩ := sw.slot (sw.tt.setN i (.func a b c))
  refine ⟨rfl, _, s2, fun j hj => ?_⟩
  have h := hps j hj
  unfold upV
  by_cases hji : j = i
  · subst hji
    rw [if_pos rfl, if_pos (by omega)]
    exact hp.keep k2
  · rw [if_neg hji]
    have h2 := h.keep k2
    by_cases h1 : j < i
    · rw [if_pos h1] at h2
      rw [if_pos (by omega)]
      exact h2
    · rw [if_neg h1] at h2
      rw [if_neg (by omega)]
      exact h2
/-- In round r, k have had their turn. -/
def EndAt (w0 w : World) (T B n Z K TB : Nat) (Q : Nat → List Int) (r k : Nat) : Prop :=
  ∃ nx dn a c g p h told, SW w0 w T B n nx dn Z K TB h a c g told ∧ (∀ i, i < n → PB w K TB (i : Int) (nx i) ((actsE (Q i)).drop (p i))) ∧
    (∀ i, i < n → 0 ≤ dn i ∧ dn i ≤ (r : Int) + 1 ∧ (k ≤ i → dn i ≤ r)) ∧ RndE n Q r k p h told
theorem StartAt.end_ (s : StartAt w0 w T B n Z K TB Q n) (hn : n ≤ 8) : EndAt w0 w T B n Z K TB Q 0 0 := by
  obtain ⟨nx, sw, hp⟩ := s
  refine ⟨nx, fun _ => 0, none, 0, TB, fun _ => 0, Lk.free, [], sw, fun i hi => ?_, fun i _ => ⟨Int.le_refl _, (show (0 : Int) ≤ ((0 : Nat) : Int) + 1 by decide), fun _ => Int.le_refl _⟩, rnd_start (je_start n (by omega) Q) (.inl (Nat.zero_le _))⟩
  have h := hp i hi
  rw [if_pos hi] at h
  exact h
theorem EndAt.below {r k : Nat} (s : EndAt w0 w T B n Z K TB Q r k) (b : Below w.heap.size w w') : EndAt w0 w' T B n Z K TB Q r k := by
  obtain ⟨nx, dn, a, c, g, p, h, told, sw, hp, hd, hr⟩ := s
  exact ⟨nx, dn, a, c, g, p, h, told, sw.below b, fun i hi => (hp i hi).keep (keepT_below b), hd, hr⟩
theorem EndAt.round {r : Nat} (s : EndAt w0 w T B n Z K TB Q r n) : EndAt w0 w T B n Z K TB Q (r + 1) 0 := by
  obtain ⟨nx, dn, a, c, g, p, h, told, sw, hp, hd, hr⟩ := s
  refine ⟨nx, dn, a, c, g, p, h, told, sw, hp, fun i hi => ?_, rnd_start hr.je (rnd_end hr)⟩
  have := hd i hi
  omega
theorem allE_le {n : Nat} {Q : Nat → List Int} (hQ : ∀ i, i < n → (Q i).length ≤ 20) : allE n Q ≤ n * 80 := sumN_const fun i hi => by have := hQ i hi; omega
theorem EndAt.turn {r k : Nat} (s : EndAt w0 w T B n Z K TB Q r k) (hk : k < n) (hn : n ≤ 8) (hQ : ∀ i, i < n → (Q i).length ≤ 20) (hr : r ≤ 100000) :
    ∃ z, (Calls Try.prog 10 #[ptr T, .int .i64 (k : Int)] w fun e w' => e = .returned (.bool z) ∧ w = w') ∧ (z = false → EndAt w0 w T B n Z K TB Q r (k + 1)) ∧
      (z = true → Calls Try.prog 8 #[ptr T, .int .i64 (k : Int), .bool false] w fun e w' => (∃ z2, e = .returned (.tuple #[.bool z2, .int .i64 0])) ∧ EndAt w0 w' T B n Z K TB Q r (k + 1)) := by
  obtain ⟨nx, dn, a, c, g, p, h, told, sw, hp, hd, hrn⟩ := s
  have hdk := hd k hk
  refine ⟨_, busy_ok sw.tt k hk (hp k hk).stepV, fun hz => ?_, fun hz => ?_⟩
  · have he : (actsE (Q k)).drop (p k) = [] := by simpa using hz
    have hl := congrArg List.length he
    rw [List.length_drop, actsE_len, List.length_nil] at hl
    have := hrn.je.le k hk
    refine ⟨nx, dn, a, c, g, p, h, told, sw, hp, fun i hi => ?_, rnd_skip hrn (by omega)⟩
    have := hd i hi
    exact ⟨by omega, by omega, fun _ => by omega⟩
  · have hne : (actsE (Q k)).drop (p k) ≠ [] := by simpa using hz
    have hlt : p k < 4 * (Q k).length := by
      apply Classical.byContradiction
      intro hc
      exact hne (List.drop_eq_nil_of_le (by rw [actsE_len]; omega))
    obtain ⟨x, hx, hcode, hrn'⟩ := rnd_step hrn hk hlt
    have hdrop : (actsE (Q k)).drop (p k) = x :: (actsE (Q k)).drop (p k + 1) := by
      rw [List.drop_eq_getElem_cons (by rw [actsE_len]; exact hlt)]
      congr 1
      rw [List.getElem?_eq_getElem (by rw [actsE_len]; exact hlt)] at hx
      exact Option.some.inj hx
    have hpk := hp k hk
    rw [hdrop] at hpk
    have htl : told.length ≤ 1000000 := by
      have h1 := hrn.je.cnt
      have h2 := sumN_le (n := n) (f := fun i => tN (p i)) (g := fun i => 4 * (Q i).length) fun i hi => by
        have := tN_le (p i)
        have := hrn.je.le i hi
        omega
      have h3 := allE_le hQ
      unfold allE at h3
      omega
    refine (run_step sw k hk false (by omega) hpk hdk.1 (by omega) htl).mono ?_
    rintro e w' ⟨v2, a', c', g', rfl, sw', kt, hp'⟩
    refine ⟨⟨_, rfl⟩, _, _, a', c', g', _, _, _, sw', fun i hi => ?_, fun i hi => ?_, hrn'⟩
    · by_cases hik : i = k
      · subst hik
        rw [upN_same]
        unfold upV
        rw [if_pos rfl]
        rcases hcode with hc | hc
        · rw [hc] at hp' ⊢
          rw [if_pos rfl, hdrop]
          exact hp'
        · rw [hc] at hp' ⊢
          rw [if_neg (by decide)]
          exact hp'
      · rw [upN_other _ _ _ hik]
        unfold upV
        rw [if_neg hik]
        exact (hp i hi).keep kt
    · have := hd i hi
      unfold upI
      by_cases hik : i = k
      · subst hik
        rw [if_pos rfl]
        exact ⟨by omega, by omega, fun _ => by omega⟩
      · rw [if_neg hik]
        exact ⟨by omega, by omega, fun _ => by omega⟩
/-- Behind the last round. -/
theorem EndAt.over {r : Nat} (s : EndAt w0 w T B n Z K TB Q r 0) (hr : allE n Q < r) :
    ∃ nx dn a c g h told, SW w0 w T B n nx dn Z K TB h a c g told ∧ (∀ i, i < n → nx i = .nilFunc) ∧ scanOk told ∧ told.length = allE n Q / 2 := by
  obtain ⟨nx, dn, a, c, g, p, h, told, sw, hp, _, hrn⟩ := s
  have hle := sumN_le (n := n) hrn.je.le
  have he : sumN n p = allE n Q := by
    unfold allE at hr ⊢
    rcases hrn.go with h1 | h1 | ⟨h1, _⟩
    · omega
    · exact h1
    · omega
  obtain ⟨h1, h2⟩ := je_end hrn.je he
  refine ⟨nx, dn, a, c, g, h, told, sw, fun i hi => ?_, hrn.je.ok, h2⟩
  have h3 := hp i hi
  rw [List.drop_eq_nil_of_le (by rw [actsE_len, h1 i hi]; exact Nat.le_refl _)] at h3
  exact h3
end
end Go.Proofs.Ytjobdncikpnojaa
