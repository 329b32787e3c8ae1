/-
  Programs that take locks one after the other, whoever is stepped next: all end. No program in sight.
-/
import Derived.Test.YtjobdncikpnojaaAloneP
namespace Go.Proofs.Ytjobdncikpnojaa
def blockE (n : Int) : List (Int × Int) := [(1, lk8 n), (3, lk8 n), (3, lk8 n), (2, lk8 n)]
def actsE (P : List Int) : List (Int × Int) := P.flatMap blockE
theorem actsE_snoc (P : List Int) (n : Int) : actsE (P ++ [n]) = actsE P ++ blockE n := by simp [actsE]
theorem actsE_cons (n : Int) (P : List Int) : actsE (n :: P) = (1, lk8 n) :: (3, lk8 n) :: (3, lk8 n) :: (2, lk8 n) :: actsE P := by simp [actsE, blockE]
theorem actsE_len (P : List Int) : (actsE P).length = 4 * P.length := by
  induction P with
  | nil => rfl
  | cons n r ih => rw [actsE_cons]; simp [ih]; omega
/-- What stands at a step. -/
def atE (n : Int) (k : Nat) : Int × Int := (if k = 0 then 1 else if k = 3 then 2 else 3, lk8 n)
theorem actsE_at : ∀ {P : List Int} {b k : Nat} {n : Int}, P[b]? = some n → k < 4 → (actsE P)[4 * b + k]? = some (atE n k)
  | [], _, _, _, h, _ => by simp at h
  | m :: r, 0, k, n, h, hk => by
    simp at h
    subst h
    rw [actsE_cons]
    match k, hk with
    | 0, _ => rfl
    | 1, _ => rfl
    | 2, _ => rfl
    | 3, _ => rfl
  | m :: r, b + 1, k, n, h, hk => by
    rw [actsE_cons, show 4 * (b + 1) + k = 4 * b + k + 4 by omega]
    have := actsE_at (P := r) (b := b) (k := k) (n := n) (by simpa using h) hk
    simpa using this
def sumN : Nat → (Nat → Nat) → Nat
  | 0, _ => 0
  | n + 1, f => sumN n f + f n
theorem sumN_le {n : Nat} {f g : Nat → Nat} (h : ∀ i, i < n → f i ≤ g i) : sumN n f ≤ sumN n g := by
  induction n with
  | zero => exact Nat.le_refl _
  | succ m ih =>
    have := ih fun i hi => h i (by omega)
    have := h m (by omega)
    simp only [sumN]; omega
theorem sumN_congr {n : Nat} {f g : Nat → Nat} (h : ∀ i, i < n → f i = g i) : sumN n f = sumN n g := by
  induction n with
  | zero => rfl
  | succ m ih => simp only [sumN]; rw [ih fun i hi => h i (by omega), h m (by omega)]
theorem sumN_mul (n c : Nat) (f : Nat → Nat) : sumN n (fun i => c * f i) = c * sumN n f := by
  induction n with
  | zero => rfl
  | succ m ih => simp only [sumN]; rw [ih, Nat.mul_add]
theorem sumN_const {n c : Nat} {f : Nat → Nat} (h : ∀ i, i < n → f i ≤ c) : sumN n f ≤ n * c := by
  induction n with
  | zero => simp [sumN]
  | succ m ih =>
    have := ih fun i hi => h i (by omega)
    have := h m (by omega)
    simp only [sumN]; rw [Nat.add_mul]; omega
theorem sumN_eq {n : Nat} {f g : Nat → Nat} (h : ∀ i, i < n → f i ≤ g i) (he : sumN n f = sumN n g) : ∀ i, i < n → f i = g i := by
  induction n with
  | zero => intro i hi; omega
  | succ m ih =>
    have h1 := sumN_le (n := m) (f := f) (g := g) fun i hi => h i (by omega)
    have h2 := h m (by omega)
    simp only [sumN] at he
    intro i hi
    by_cases him : i = m
    · subst him; omega
    · exact ih (fun i hi => h i (by omega)) (by omega) i (by omega)
def upN (f : Nat → Nat) (k v : Nat) : Nat → Nat := fun i => if i = k then v else f i
theorem upN_same (f : Nat → Nat) (k v : Nat) : upN f k v k = v := by unfold upN; simp
theorem upN_other (f : Nat → Nat) (k v : Nat) {i : Nat} (h : i ≠ k) : upN f k v i = f i := by unfold upN; simp [h]
theorem sumN_up {n k : Nat} (f : Nat → Nat) (v : Nat) (t : Nat → Nat) (hk : k < n) : sumN n (fun i => t (upN f k v i)) + t (f k) = sumN n (fun i => t (f i)) + t v := by
  induction n with
  | zero => omega
  | succ m ih =>
    simp only [sumN]
    by_cases h : k = m
    · subst h
      rw [upN_same, sumN_congr (n := k) (f := fun i => t (upN f k v i)) (g := fun i => t (f i)) (fun i hi => by rw [upN_other _ _ _ (by omega)])]
      omega
    · have := ih (by omega)
      rw [upN_other f k v (show m ≠ k by omega)]
      omega
/-- How much is told at a step. -/
def tN (p : Nat) : Nat := p / 4 * 2 + (if p % 4 = 2 then 1 else if p % 4 = 3 then 2 else 0)
theorem tN_next (p : Nat) : tN (p + 1) = tN p + (if p % 4 = 1 ∨ p % 4 = 2 then 1 else 0) := by
  unfold tN
  rcases (show p % 4 = 0 ∨ p % 4 = 1 ∨ p % 4 = 2 ∨ p % 4 = 3 by omega) with h | h | h | h
  · rw [show (p + 1) % 4 = 1 by omega, h, show (p + 1) / 4 = p / 4 by omega]; simp
  · rw [show (p + 1) % 4 = 2 by omega, h, show (p + 1) / 4 = p / 4 by omega]; simp
  · rw [show (p + 1) % 4 = 3 by omega, h, show (p + 1) / 4 = p / 4 by omega]; simp
  · rw [show (p + 1) % 4 = 0 by omega, h, show (p + 1) / 4 = p / 4 + 1 by omega]; simp; omega
theorem tN_full (k : Nat) : tN (4 * k) = 2 * k := by unfold tN; rw [show 4 * k / 4 = k by omega, show 4 * k % 4 = 0 by omega]; simp; omega
theorem tN_le (p : Nat) : tN p ≤ p := by unfold tN; split <;> (try split) <;> omega
/-- Who is inside, behind what was told. -/
def insStep (f : Nat → Int) (x : Int × Int) : Nat → Int := Lk.upd f x.2.toNat (if f x.2.toNat < 0 then x.1 else -1)
def insF (told : List (Int × Int)) : Nat → Int := told.foldl insStep fun _ => -1
theorem insF_snoc (told : List (Int × Int)) (x : Int × Int) : insF (told ++ [x]) = insStep (insF told) x := by simp [insF]
def okAt (f : Nat → Int) (x : Int × Int) : Prop := f x.2.toNat < 0 ∨ f x.2.toNat = x.1
def scanOk (told : List (Int × Int)) : Prop := ∀ k x, told[k]? = some x → okAt (insF (told.take k)) x ∧ 0 ≤ x.1 ∧ x.1 ≤ 1000 ∧ 0 ≤ x.2 ∧ x.2 < 8
theorem scanOk_nil : scanOk [] := fun k x h => by simp at h
theorem scanOk_snoc {told : List (Int × Int)} {x : Int × Int} (h : scanOk told) (hx : okAt (insF told) x) (hr : 0 ≤ x.1 ∧ x.1 ≤ 1000 ∧ 0 ≤ x.2 ∧ x.2 < 8) : scanOk (told ++ [x]) := fun k y hy => by
  by_cases hk : k < told.length
  · rw [List.getElem?_append_left hk] at hy
    rw [List.take_append_of_le_length (by omega)]
    exact h k y hy
  · have hk2 : k = told.length := by
      have := (List.getElem?_eq_some_iff.1 hy).1
      simp at this
      omega
    subst hk2
    simp at hy
    subst hy
    rw [List.take_append_of_le_length (Nat.le_refl _), List.take_of_length_le (Nat.le_refl _)]
    exact ⟨hx, hr⟩
/-- Where all stand. -/
structure JE (n : Nat) (Q : Nat → List Int) (p : Nat → Nat) (h : Lk.Hold) (told : List (Int × Int)) : Prop where
  nle : n ≤ 1000
  le : ∀ i, i < n → p i ≤ 4 * (Q i).length
  hold : ∀ l, l < 8 → h l = -1 ∨ ∃ (i : Nat) (x : Int), i < n ∧ h l = (i : Int) ∧ p i % 4 ≠ 0 ∧ (Q i)[p i / 4]? = some x ∧ (lk8 x).toNat = l
  held : ∀ (i : Nat) (x : Int), i < n → p i % 4 ≠ 0 → (Q i)[p i / 4]? = some x → h (lk8 x).toNat = (i : Int)
  scan : ∀ l, l < 8 → insF told l = if 0 ≤ h l ∧ p (h l).toNat % 4 = 2 then h l else -1
  ok : scanOk told
  cnt : told.length = sumN n fun i => tN (p i)
section
variable {n : Nat} {Q : Nat → List Int} {p : Nat → Nat} {h : Lk.Hold} {told : List (Int × Int)}
theorem je_start (n : Nat) (hn : n ≤ 1000) (Q : Nat → List Int) : JE n Q (fun _ => 0) Lk.free [] := by
  refine ⟨hn, fun _ _ => Nat.zero_le _, fun l _ => .inl rfl, fun i x _ h => absurd rfl h, fun l _ => ?_, scanOk_nil, ?_⟩
  · show (-1 : Int) = _
    rw [if_neg (by unfold Lk.free; omega)]
  · show 0 = _
    have : ∀ n, sumN n (fun _ => tN 0) = 0 := fun n => by
      induction n with
      | zero => rfl
      | succ m ih => simp only [sumN]; rw [ih]; rfl
    exact (this n).symm
/-- What a step of a busy one does. -/
theorem je_step (s : JE n Q p h told) {i : Nat} (hi : i < n) (hp : p i < 4 * (Q i).length) :
    ∃ x, (actsE (Q i))[p i]? = some x ∧
      (((stepF (i : Int) h x).1 = 2 ∧ JE n Q (upN p i (p i + 1)) (stepF (i : Int) h x).2.1 (told ++ (stepF (i : Int) h x).2.2)) ∨
       ((stepF (i : Int) h x).1 = 1 ∧ (stepF (i : Int) h x).2.1 = h ∧ (stepF (i : Int) h x).2.2 = [] ∧ p i % 4 = 0 ∧ ∃ j, j < n ∧ p j % 4 ≠ 0)) := by
  obtain ⟨x, hx⟩ : ∃ x, (Q i)[p i / 4]? = some x := ⟨_, List.getElem?_eq_getElem (by omega)⟩
  have hat := actsE_at hx (show p i % 4 < 4 by omega)
  rw [show 4 * (p i / 4) + p i % 4 = p i by omega] at hat
  refine ⟨_, hat, ?_⟩
  have hr := lk8_range x
  obtain ⟨l, hl⟩ : ∃ l : Nat, lk8 x = (l : Int) := ⟨(lk8 x).toNat, by omega⟩
  have hl8 : l < 8 := by omega
  have hlt : (lk8 x).toNat = l := by omega
  have hbad : Lk.bad 8 (i : Int) (l : Int) = false := by unfold Lk.bad; simp; omega
  have hsum : ∀ v, sumN n (fun j => tN (upN p i v j)) + tN (p i) = told.length + tN v := fun v => by rw [s.cnt]; exact sumN_up p v tN hi
  have hle : ∀ j, j < n → upN p i (p i + 1) j ≤ 4 * (Q j).length := fun j hj => by
    unfold upN
    split
    · rename_i e; rw [e]; omega
    · exact s.le j hj
  have hnext := tN_next (p i)
  have hs1 := hsum (p i + 1)
  have hn := s.nle
  rcases (show p i % 4 = 0 ∨ p i % 4 = 1 ∨ p i % 4 = 2 ∨ p i % 4 = 3 by omega) with hk | hk | hk | hk
  · -- a try
    have hab : Lk.above 8 h (i : Int) l = false := (Lk.above_false _ _ _ _).2 fun j _ hj he => by
      rcases s.hold j hj with h1 | ⟨i', _, _, h1, h2, _⟩
      · omega
      · have : i' = i := by omega
        subst this
        exact h2 hk
    have hat2 : atE x (p i % 4) = (1, (l : Int)) := by rw [hk]; unfold atE; simp [hl]
    rw [hat2]
    by_cases hfr : h l = -1
    · left
      have ht : Lk.tryF 8 h (i : Int) (l : Int) = (true, 0, Lk.upd h l i) := by
        unfold Lk.tryF
        rw [hbad]
        simp [hab, hfr]
      have hst : stepF (i : Int) h (1, (l : Int)) = (2, Lk.upd h l i, []) := by unfold stepF; simp [ht]
      rw [hst]
      dsimp only
      refine ⟨rfl, s.nle, hle, fun m hm => ?_, fun j y hj hy hq => ?_, fun m hm => ?_, by simpa using s.ok, ?_⟩
      · by_cases hml : m = l
        · right
          subst hml
          refine ⟨i, x, hi, by unfold Lk.upd; simp, by rw [upN_same]; omega, by rw [upN_same, show (p i + 1) / 4 = p i / 4 by omega]; exact hx, hlt⟩
        · rcases s.hold m hm with h1 | ⟨j, y, h1, h2, h3, h4, h5⟩
          · left; unfold Lk.upd; simp [hml, h1]
          · right
            have hji : j ≠ i := by rintro rfl; exact h3 hk
            exact ⟨j, y, h1, by unfold Lk.upd; simp [hml, h2], by rw [upN_other _ _ _ hji]; exact h3, by rw [upN_other _ _ _ hji]; exact h4, h5⟩
      · by_cases hji : j = i
        · subst hji
          rw [upN_same, show (p j + 1) / 4 = p j / 4 by omega, hx] at hq
          cases hq
          unfold Lk.upd; simp [hlt]
        · rw [upN_other _ _ _ hji] at hy hq
          have h1 := s.held j y hj hy hq
          have hne : (lk8 y).toNat ≠ l := by
            intro e
            rw [e, hfr] at h1
            omega
          unfold Lk.upd
          simp [hne, h1]
      · have hs := s.scan m hm
        simp only [List.append_nil]
        rw [hs]
        by_cases hml : m = l
        · subst hml
          rw [if_neg (by rw [hfr]; omega)]
          unfold Lk.upd
          rw [if_pos rfl, if_neg]
          rintro ⟨_, h2⟩
          rw [Int.toNat_natCast, upN_same] at h2
          omega
        · have e1 : Lk.upd h l (i : Int) m = h m := by unfold Lk.upd; simp [hml]
          rw [e1]
          have e2 : 0 ≤ h m → upN p i (p i + 1) (h m).toNat = p (h m).toNat := fun h0 => by
            apply upN_other
            intro e
            rcases s.hold m hm with h1 | ⟨j, y, _, h2, h3, _⟩
            · omega
            · have : j = i := by omega
              subst this
              exact h3 hk
          by_cases h0 : 0 ≤ h m
          · rw [e2 h0]
          · rw [if_neg (by omega), if_neg (by omega)]
      · rw [if_neg (by omega)] at hnext
        simp only [List.append_nil]
        omega
    · right
      have ht : Lk.tryF 8 h (i : Int) (l : Int) = (false, 0, h) := by
        unfold Lk.tryF
        rw [hbad]
        simp [hab, hfr]
      have hst : stepF (i : Int) h (1, (l : Int)) = (1, h, []) := by unfold stepF; simp [ht]
      rw [hst]
      dsimp only
      refine ⟨rfl, rfl, rfl, hk, ?_⟩
      rcases s.hold l hl8 with h1 | ⟨j, _, h1, _, h3, _⟩
      · exact absurd h1 hfr
      · exact ⟨j, h1, h3⟩
  · -- it tells, the first time
    left
    have hh := s.held i x hi (by omega) hx
    rw [hlt] at hh
    have hat2 : atE x (p i % 4) = (3, (l : Int)) := by rw [hk]; unfold atE; simp [hl]
    rw [hat2]
    have hst : stepF (i : Int) h (3, (l : Int)) = (2, h, [((i : Int), (l : Int))]) := by unfold stepF; simp
    rw [hst]
    dsimp only
    have hsl := s.scan l hl8
    rw [hh, Int.toNat_natCast, if_neg (by omega)] at hsl
    refine ⟨rfl, s.nle, hle, fun m hm => ?_, fun j y hj hy hq => ?_, fun m hm => ?_, scanOk_snoc s.ok (.inl ?_) ⟨by simp, by simp; omega, by simp, by simp; omega⟩, ?_⟩
    · rcases s.hold m hm with h1 | ⟨j, y, h1, h2, h3, h4, h5⟩
      · exact .inl h1
      · right
        by_cases hji : j = i
        · subst hji
          exact ⟨j, y, h1, h2, by rw [upN_same]; omega, by rw [upN_same, show (p j + 1) / 4 = p j / 4 by omega]; exact h4, h5⟩
        · exact ⟨j, y, h1, h2, by rw [upN_other _ _ _ hji]; exact h3, by rw [upN_other _ _ _ hji]; exact h4, h5⟩
    · by_cases hji : j = i
      · subst hji
        rw [upN_same, show (p j + 1) / 4 = p j / 4 by omega] at hq
        exact s.held j y hj (by omega) hq
      · rw [upN_other _ _ _ hji] at hy hq
        exact s.held j y hj hy hq
    · rw [insF_snoc]
      unfold insStep
      show Lk.upd (insF told) ((l : Int)).toNat (if insF told ((l : Int)).toNat < 0 then (i : Int) else -1) m = _
      rw [Int.toNat_natCast, hsl, if_pos (by omega)]
      by_cases hml : m = l
      · subst hml
        rw [hh, Int.toNat_natCast, upN_same, if_pos ⟨by omega, by omega⟩]
        unfold Lk.upd; simp
      · have e1 : Lk.upd (insF told) l (i : Int) m = insF told m := by unfold Lk.upd; simp [hml]
        rw [e1, s.scan m hm]
        by_cases h0 : 0 ≤ h m
        · rw [upN_other p i _ (i := (h m).toNat)]
          intro e
          rcases s.hold m hm with h1 | ⟨j, y, h1, h2, h3, h4, h5⟩
          · omega
          · have : j = i := by omega
            subst this
            rw [hx] at h4
            cases h4
            omega
        · rw [if_neg (by omega), if_neg (by omega)]
    · show insF told ((l : Int)).toNat < 0
      rw [Int.toNat_natCast, hsl]; omega
    · rw [if_pos (by omega)] at hnext
      simp only [List.length_append, List.length_singleton]
      omega
  · -- it tells, the second time
    left
    have hh := s.held i x hi (by omega) hx
    rw [hlt] at hh
    have hat2 : atE x (p i % 4) = (3, (l : Int)) := by rw [hk]; unfold atE; simp [hl]
    rw [hat2]
    have hst : stepF (i : Int) h (3, (l : Int)) = (2, h, [((i : Int), (l : Int))]) := by unfold stepF; simp
    rw [hst]
    dsimp only
    have hsl := s.scan l hl8
    rw [hh, Int.toNat_natCast, if_pos ⟨by omega, hk⟩] at hsl
    refine ⟨rfl, s.nle, hle, fun m hm => ?_, fun j y hj hy hq => ?_, fun m hm => ?_, scanOk_snoc s.ok (.inr ?_) ⟨by simp, by simp; omega, by simp, by simp; omega⟩, ?_⟩
    · rcases s.hold m hm with h1 | ⟨j, y, h1, h2, h3, h4, h5⟩
      · exact .inl h1
      · right
        by_cases hji : j = i
        · subst hji
          exact ⟨j, y, h1, h2, by rw [upN_same]; omega, by rw [upN_same, show (p j + 1) / 4 = p j / 4 by omega]; exact h4, h5⟩
        · exact ⟨j, y, h1, h2, by rw [upN_other _ _ _ hji]; exact h3, by rw [upN_other _ _ _ hji]; exact h4, h5⟩
    · by_cases hji : j = i
      · subst hji
        rw [upN_same, show (p j + 1) / 4 = p j / 4 by omega] at hq
        exact s.held j y hj (by omega) hq
      · rw [upN_other _ _ _ hji] at hy hq
        exact s.held j y hj hy hq
    · rw [insF_snoc]
      unfold insStep
      show Lk.upd (insF told) ((l : Int)).toNat (if insF told ((l : Int)).toNat < 0 then (i : Int) else -1) m = _
      rw [Int.toNat_natCast, hsl, if_neg (by omega)]
      by_cases hml : m = l
      · subst hml
        rw [hh, Int.toNat_natCast, upN_same, if_neg (by omega)]
        unfold Lk.upd; simp
      · have e1 : Lk.upd (insF told) l (-1) m = insF told m := by unfold Lk.upd; simp [hml]
        rw [e1, s.scan m hm]
        by_cases h0 : 0 ≤ h m
        · rw [upN_other p i _ (i := (h m).toNat)]
          intro e
          rcases s.hold m hm with h1 | ⟨j, y, h1, h2, h3, h4, h5⟩
          · omega
          · have : j = i := by omega
            subst this
            rw [hx] at h4
            cases h4
            omega
        · rw [if_neg (by omega), if_neg (by omega)]
    · show insF told ((l : Int)).toNat = (i : Int)
      rw [Int.toNat_natCast, hsl]
    · rw [if_pos (by omega)] at hnext
      simp only [List.length_append, List.length_singleton]
      omega
  · -- it frees
    left
    have hh := s.held i x hi (by omega) hx
    rw [hlt] at hh
    have hat2 : atE x (p i % 4) = (2, (l : Int)) := by rw [hk]; unfold atE; simp [hl]
    rw [hat2]
    have ht : Lk.freeF 8 h (i : Int) (l : Int) = (0, Lk.upd h l (-1)) := by
      unfold Lk.freeF
      rw [hbad]
      simp [hh]
    have hst : stepF (i : Int) h (2, (l : Int)) = (2, Lk.upd h l (-1), []) := by unfold stepF; simp [ht]
    rw [hst]
    dsimp only
    refine ⟨rfl, s.nle, hle, fun m hm => ?_, fun j y hj hy hq => ?_, fun m hm => ?_, by simpa using s.ok, ?_⟩
    · by_cases hml : m = l
      · left; unfold Lk.upd; simp [hml]
      · rcases s.hold m hm with h1 | ⟨j, y, h1, h2, h3, h4, h5⟩
        · left; unfold Lk.upd; simp [hml, h1]
        · right
          have hji : j ≠ i := by
            rintro rfl
            rw [hx] at h4
            cases h4
            omega
          exact ⟨j, y, h1, by unfold Lk.upd; simp [hml, h2], by rw [upN_other _ _ _ hji]; exact h3, by rw [upN_other _ _ _ hji]; exact h4, h5⟩
    · by_cases hji : j = i
      · subst hji
        rw [upN_same] at hy
        omega
      · rw [upN_other _ _ _ hji] at hy hq
        have h1 := s.held j y hj hy hq
        have hne : (lk8 y).toNat ≠ l := by
          intro e
          rw [e, hh] at h1
          omega
        unfold Lk.upd
        simp [hne, h1]
    · simp only [List.append_nil]
      by_cases hml : m = l
      · subst hml
        rw [s.scan m hm, hh, Int.toNat_natCast, if_neg (by omega)]
        unfold Lk.upd
        rw [if_pos rfl, if_neg (by omega)]
      · have e1 : Lk.upd h l (-1) m = h m := by unfold Lk.upd; simp [hml]
        rw [e1, s.scan m hm]
        by_cases h0 : 0 ≤ h m
        · rw [upN_other p i _ (i := (h m).toNat)]
          intro e
          rcases s.hold m hm with h1 | ⟨j, y, h1, h2, h3, h4, h5⟩
          · omega
          · have : j = i := by omega
            subst this
            rw [hx] at h4
            cases h4
            omega
        · rw [if_neg (by omega), if_neg (by omega)]
    · rw [if_neg (by omega)] at hnext
      simp only [List.append_nil]
      omega
/-- Some one from k on will go on in this round. -/
def Pend (n : Nat) (Q : Nat → List Int) (p : Nat → Nat) (k : Nat) : Prop := ∃ i, k ≤ i ∧ i < n ∧ p i < 4 * (Q i).length ∧ (p i % 4 ≠ 0 ∨ ∀ j, j < n → p j % 4 = 0)
def allE (n : Nat) (Q : Nat → List Int) : Nat := sumN n fun i => 4 * (Q i).length
/-- In round r, behind k of them. -/
structure RndE (n : Nat) (Q : Nat → List Int) (r k : Nat) (p : Nat → Nat) (h : Lk.Hold) (told : List (Int × Int)) : Prop where
  je : JE n Q p h told
  go : r + 1 ≤ sumN n p ∨ sumN n p = allE n Q ∨ (r ≤ sumN n p ∧ Pend n Q p k)
theorem rnd_start (s : JE n Q p h told) {r : Nat} (hg : r ≤ sumN n p ∨ sumN n p = allE n Q) : RndE n Q r 0 p h told := by
  refine ⟨s, ?_⟩
  by_cases ha : sumN n p = allE n Q
  · exact .inr (.inl ha)
  have hr : r ≤ sumN n p := hg.resolve_right ha
  right; right
  refine ⟨hr, ?_⟩
  obtain ⟨i, hi, hlt⟩ : ∃ i, i < n ∧ p i < 4 * (Q i).length := by
    apply Classical.byContradiction
    intro hc
    apply ha
    refine sumN_congr fun i hi => ?_
    have := s.le i hi
    apply Classical.byContradiction
    intro hne
    exact hc ⟨i, hi, by omega⟩
  by_cases hph : ∃ j, j < n ∧ p j % 4 ≠ 0
  · obtain ⟨j, hj, hp⟩ := hph
    have := s.le j hj
    exact ⟨j, Nat.zero_le _, hj, by omega, .inl hp⟩
  · refine ⟨i, Nat.zero_le _, hi, hlt, .inr fun j hj => ?_⟩
    apply Classical.byContradiction
    intro hne
    exact hph ⟨j, hj, hne⟩
theorem rnd_skip {r k : Nat} (s : RndE n Q r k p h told) (hk : p k = 4 * (Q k).length) : RndE n Q r (k + 1) p h told := by
  refine ⟨s.je, ?_⟩
  rcases s.go with h | h | ⟨h1, i, h2, h3, h4, h5⟩
  · exact .inl h
  · exact .inr (.inl h)
  · have : i ≠ k := by rintro rfl; omega
    exact .inr (.inr ⟨h1, i, by omega, h3, h4, h5⟩)
theorem rnd_end {r : Nat} (s : RndE n Q r n p h told) : r + 1 ≤ sumN n p ∨ sumN n p = allE n Q := by
  rcases s.go with h | h | ⟨_, i, h2, h3, _⟩
  · exact .inl h
  · exact .inr h
  · omega
/-- A step of round r. -/
theorem rnd_step {r k : Nat} (s : RndE n Q r k p h told) (hk : k < n) (hp : p k < 4 * (Q k).length) :
    ∃ x, (actsE (Q k))[p k]? = some x ∧ ((stepF (k : Int) h x).1 = 1 ∨ (stepF (k : Int) h x).1 = 2) ∧
      RndE n Q r (k + 1) (upN p k (if (stepF (k : Int) h x).1 = 1 then p k else p k + 1)) (stepF (k : Int) h x).2.1 (told ++ (stepF (k : Int) h x).2.2) := by
  obtain ⟨x, hx, hor⟩ := je_step s.je hk hp
  refine ⟨x, hx, ?_⟩
  rcases hor with ⟨hc, j⟩ | ⟨hc, h1, h2, hph, j, hj, hpj⟩
  · refine ⟨.inr hc, ?_⟩
    rw [hc, if_neg (by decide)]
    refine ⟨j, ?_⟩
    have hs := sumN_up (n := n) p (p k + 1) (fun v => v) hk
    have hs2 : sumN n (upN p k (p k + 1)) = sumN n (fun i => upN p k (p k + 1) i) := rfl
    have hs3 : sumN n p = sumN n (fun i => p i) := rfl
    have hlt : sumN n p < allE n Q := by
      have h1 := sumN_le (n := n) (f := upN p k (p k + 1)) (g := fun i => 4 * (Q i).length) j.le
      unfold allE
      omega
    rcases s.go with h | h | ⟨h, _⟩
    · left; omega
    · omega
    · left; omega
  · refine ⟨.inl hc, ?_⟩
    have hup : upN p k (p k) = p := by funext i; unfold upN; split <;> simp_all
    rw [hc, if_pos rfl, hup, h1, h2, List.append_nil]
    refine ⟨s.je, ?_⟩
    rcases s.go with h | h | ⟨h3, i, h4, h5, h6, h7⟩
    · exact .inl h
    · exact .inr (.inl h)
    · have : i ≠ k := by
        rintro rfl
        rcases h7 with h7 | h7
        · exact h7 hph
        · exact hpj (h7 j hj)
      exact .inr (.inr ⟨h3, i, by omega, h5, h6, h7⟩)
/-- All have ended. -/
theorem je_end (s : JE n Q p h told) (he : sumN n p = allE n Q) : (∀ i, i < n → p i = 4 * (Q i).length) ∧ told.length = allE n Q / 2 := by
  have h1 := sumN_eq s.le he
  refine ⟨h1, ?_⟩
  rw [s.cnt, sumN_congr (g := fun i => 2 * (Q i).length) fun i hi => by rw [h1 i hi, tN_full]]
  unfold allE
  rw [sumN_mul n 2, sumN_mul n 4]
  omega
end
end Go.Proofs.Ytjobdncikpnojaa
