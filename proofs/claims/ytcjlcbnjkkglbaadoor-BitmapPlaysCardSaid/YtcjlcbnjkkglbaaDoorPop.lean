/-
  How many bits of a word: the sums by halves, byte by byte. No program in sight.
-/
import Derived.Test.YtcjlcbnjkkglbaaDoorPlain
namespace Go.Proofs.YtcjlcbnjkkglbaaDoor

/-- How many of n bits from a on. -/
def cntP (P : Nat → Bool) (a n : Nat) : Nat := (List.range n).countP fun j => P (a + j)
theorem cntP_zero (P : Nat → Bool) (a : Nat) : cntP P a 0 = 0 := rfl
theorem cntP_succ (P : Nat → Bool) (a n : Nat) : cntP P a (n + 1) = cntP P a n + if P (a + n) then 1 else 0 := by
  unfold cntP
  rw [List.range_succ, List.countP_append, List.countP_cons, List.countP_nil]
  simp
theorem cntP_le (P : Nat → Bool) (a n : Nat) : cntP P a n ≤ n := by
  unfold cntP
  have := List.countP_le_length (p := fun j => P (a + j)) (l := List.range n)
  simpa using this
theorem cntP_add (P : Nat → Bool) (a n : Nat) : ∀ m, cntP P a (n + m) = cntP P a n + cntP P (a + n) m
  | 0 => by simp [cntP_zero]
  | m + 1 => by rw [← Nat.add_assoc, cntP_succ, cntP_succ, cntP_add P a n m, Nat.add_assoc a n m]; omega
theorem cntP_congr {P P' : Nat → Bool} {a a' : Nat} : ∀ {n : Nat}, (∀ j, j < n → P (a + j) = P' (a' + j)) → cntP P a n = cntP P' a' n
  | 0, _ => rfl
  | n + 1, h => by rw [cntP_succ, cntP_succ, cntP_congr (n := n) (fun j hj => h j (by omega)), h n (by omega)]
def pop (n x : Nat) : Nat := cntP x.testBit 0 n
theorem pop_le (n x : Nat) : pop n x ≤ n := cntP_le _ _ _
theorem pop_split (m n x : Nat) : pop (m + n) x = pop m (x % 2 ^ m) + pop n (x / 2 ^ m) := by
  unfold pop
  rw [cntP_add]
  congr 1
  · exact cntP_congr fun j hj => by rw [Nat.testBit_mod_two_pow, Nat.zero_add]; simp [hj]
  · exact cntP_congr fun j hj => by rw [Nat.testBit_div_two_pow, Nat.zero_add, Nat.zero_add, Nat.add_comm]

theorem land_digit {d m r s : Nat} (hd : d < 256) (hm : m < 256) : (d + 256 * r) &&& (m + 256 * s) = (d &&& m) + 256 * (r &&& s) := by
  have h1 : (d &&& m) < 2 ^ 8 := Nat.and_lt_two_pow _ (by omega)
  have e1 : ((d + 256 * r) &&& (m + 256 * s)) % 2 ^ 8 = d &&& m := by
    rw [Nat.and_mod_two_pow]
    rw [show (d + 256 * r) % 2 ^ 8 = d by omega, show (m + 256 * s) % 2 ^ 8 = m by omega]
  have e2 : ((d + 256 * r) &&& (m + 256 * s)) / 2 ^ 8 = r &&& s := by
    rw [Nat.and_div_two_pow]
    rw [show (d + 256 * r) / 2 ^ 8 = r by omega, show (m + 256 * s) / 2 ^ 8 = s by omega]
  have := Nat.div_add_mod ((d + 256 * r) &&& (m + 256 * s)) (2 ^ 8)
  rw [e1, e2] at this
  omega
/-- n bytes, each m. -/
def rep (m : Nat) : Nat → Nat
  | 0 => 0
  | n + 1 => m + 256 * rep m n
/-- A function on each of n bytes. -/
def byt (f : Nat → Nat) : Nat → Nat → Nat
  | 0, _ => 0
  | n + 1, x => f (x % 256) + 256 * byt f n (x / 256)
def p1 (d : Nat) : Nat := ((d / 2) &&& 85) + (d &&& 85)
def p2 (d : Nat) : Nat := ((d / 4) &&& 51) + (d &&& 51)
def p3 (d : Nat) : Nat := (d / 16 + d) &&& 15
theorem m1 : ∀ d : Fin 256, ∀ t : Fin 2, (d.val / 2 + 128 * t.val) &&& 85 = (d.val / 2) &&& 85 ∧ d.val / 2 + 128 * t.val < 256 ∧ p1 d.val < 256 := by decide +kernel
theorem m2 : ∀ d : Fin 256, ∀ t : Fin 4, (d.val / 4 + 64 * t.val) &&& 51 = (d.val / 4) &&& 51 ∧ d.val / 4 + 64 * t.val < 256 ∧ p2 d.val < 256 := by decide +kernel
theorem m3 : ∀ d : Fin 256, ∀ t : Fin 5, (p2 (p1 d.val) / 16 + 16 * t.val + p2 (p1 d.val)) &&& 15 = p3 (p2 (p1 d.val)) ∧ p2 (p1 d.val) / 16 + 16 * t.val + p2 (p1 d.val) < 256 ∧ p2 (p1 d.val) % 16 ≤ 4 := by decide +kernel
theorem m4 : ∀ d : Fin 256, p3 (p2 (p1 d.val)) = pop 8 d.val := by decide +kernel
theorem s1 : ∀ (n x : Nat), x < 256 ^ n → ((x / 2) &&& rep 85 n) + (x &&& rep 85 n) = byt p1 n x
  | 0, x, h => by simp [rep, byt]
  | n + 1, x, h => by
    have hr : x / 256 < 256 ^ n := by rw [Nat.div_lt_iff_lt_mul (by decide)]; rwa [Nat.pow_succ] at h
    have ih := s1 n (x / 256) hr
    obtain ⟨a1, a2, a3⟩ := m1 ⟨x % 256, Nat.mod_lt _ (by decide)⟩ ⟨x / 256 % 2, Nat.mod_lt _ (by decide)⟩
    simp only at a1 a2 a3
    have e1 : x / 2 = (x % 256 / 2 + 128 * (x / 256 % 2)) + 256 * (x / 256 / 2) := by omega
    have e2 : x = x % 256 + 256 * (x / 256) := by omega
    unfold rep byt
    rw [e1, land_digit a2 (by decide), a1]
    rw [show (x &&& (85 + 256 * rep 85 n)) = (x % 256 &&& 85) + 256 * (x / 256 &&& rep 85 n) by rw [← land_digit (Nat.mod_lt _ (by decide)) (by decide), ← e2]]
    have e3 : p1 (x % 256) = ((x % 256 / 2) &&& 85) + (x % 256 &&& 85) := rfl
    omega
theorem s2 : ∀ (n x : Nat), x < 256 ^ n → ((x / 4) &&& rep 51 n) + (x &&& rep 51 n) = byt p2 n x
  | 0, x, h => by simp [rep, byt]
  | n + 1, x, h => by
    have hr : x / 256 < 256 ^ n := by rw [Nat.div_lt_iff_lt_mul (by decide)]; rwa [Nat.pow_succ] at h
    have ih := s2 n (x / 256) hr
    obtain ⟨a1, a2, a3⟩ := m2 ⟨x % 256, Nat.mod_lt _ (by decide)⟩ ⟨x / 256 % 4, Nat.mod_lt _ (by decide)⟩
    simp only at a1 a2 a3
    have e1 : x / 4 = (x % 256 / 4 + 64 * (x / 256 % 4)) + 256 * (x / 256 / 4) := by omega
    have e2 : x = x % 256 + 256 * (x / 256) := by omega
    unfold rep byt
    rw [e1, land_digit a2 (by decide), a1]
    rw [show (x &&& (51 + 256 * rep 51 n)) = (x % 256 &&& 51) + 256 * (x / 256 &&& rep 51 n) by rw [← land_digit (Nat.mod_lt _ (by decide)) (by decide), ← e2]]
    have e3 : p2 (x % 256) = ((x % 256 / 4) &&& 51) + (x % 256 &&& 51) := rfl
    omega
theorem byt_lt (f : Nat → Nat) (hf : ∀ d, d < 256 → f d < 256) : ∀ (n x : Nat), byt f n x < 256 ^ n
  | 0, x => by simp [byt]
  | n + 1, x => by
    have := byt_lt f hf n (x / 256)
    have := hf (x % 256) (Nat.mod_lt _ (by decide))
    unfold byt
    rw [Nat.pow_succ]
    omega
theorem byt_byt (f g : Nat → Nat) (hg : ∀ d, d < 256 → g d < 256) : ∀ (n x : Nat), byt f n (byt g n x) = byt (fun d => f (g d)) n x
  | 0, x => rfl
  | n + 1, x => by
    have h1 := hg (x % 256) (Nat.mod_lt _ (by decide))
    have e1 : (g (x % 256) + 256 * byt g n (x / 256)) % 256 = g (x % 256) := by omega
    have e2 : (g (x % 256) + 256 * byt g n (x / 256)) / 256 = byt g n (x / 256) := by omega
    show f ((g (x % 256) + 256 * byt g n (x / 256)) % 256) + 256 * byt f n ((g (x % 256) + 256 * byt g n (x / 256)) / 256) = f (g (x % 256)) + 256 * byt (fun d => f (g d)) n (x / 256)
    rw [e1, e2, byt_byt f g hg n]
theorem byt_low (n x : Nat) : byt (fun d => p2 (p1 d)) n x % 16 ≤ 4 := by
  cases n with
  | zero => simp [byt]
  | succ n =>
    have := (m3 ⟨x % 256, Nat.mod_lt _ (by decide)⟩ ⟨0, by decide⟩).2.2
    simp only at this
    unfold byt
    omega
theorem s3 : ∀ (n x : Nat), (byt (fun d => p2 (p1 d)) n x / 16 + byt (fun d => p2 (p1 d)) n x) &&& rep 15 n = byt (fun d => p3 (p2 (p1 d))) n x
  | 0, x => by simp [rep, byt]
  | n + 1, x => by
    have ih := s3 n (x / 256)
    have hl := byt_low n (x / 256)
    unfold byt rep
    generalize byt (fun d => p2 (p1 d)) n (x / 256) = y at *
    obtain ⟨a1, a2, a3⟩ := m3 ⟨x % 256, Nat.mod_lt _ (by decide)⟩ ⟨y % 16, by omega⟩
    simp only at a1 a2 a3
    generalize p2 (p1 (x % 256)) = q at *
    have e1 : (q + 256 * y) / 16 + (q + 256 * y) = (q / 16 + 16 * (y % 16) + q) + 256 * (y / 16 + y) := by omega
    rw [e1, land_digit a2 (by decide), a1, ih]
theorem byt_pop : ∀ (n x : Nat), byt (fun d => p3 (p2 (p1 d))) n x = byt (pop 8) n x
  | 0, _ => rfl
  | n + 1, x => by
    unfold byt
    rw [byt_pop n, m4 ⟨x % 256, Nat.mod_lt _ (by decide)⟩]
/-- The sums by halves, down to bytes. -/
theorem swar {x : Nat} (hx : x < 256 ^ 8) : let x1 := ((x / 2) &&& 6148914691236517205) + (x &&& 6148914691236517205)
    let x2 := ((x1 / 4) &&& 3689348814741910323) + (x1 &&& 3689348814741910323)
    (x2 / 16 + x2) &&& 1085102592571150095 = byt (pop 8) 8 x := by
  have r1 : rep 85 8 = 6148914691236517205 := by decide
  have r2 : rep 51 8 = 3689348814741910323 := by decide
  have r3 : rep 15 8 = 1085102592571150095 := by decide
  have hp1 : ∀ d, d < 256 → p1 d < 256 := fun d hd => (m1 ⟨d, hd⟩ ⟨0, by decide⟩).2.2
  have h1 := s1 8 x hx
  rw [r1] at h1
  have h2 := s2 8 (byt p1 8 x) (byt_lt p1 hp1 8 x)
  rw [r2, byt_byt p2 p1 hp1] at h2
  have h3 := s3 8 x
  rw [r3, byt_pop] at h3
  simp only
  rw [h1, h2, h3]
theorem pop64 (x : Nat) : pop 64 x = pop 8 (x % 256) + pop 8 (x / 256 % 256) + pop 8 (x / 65536 % 256) + pop 8 (x / 16777216 % 256) + pop 8 (x / 4294967296 % 256) + pop 8 (x / 1099511627776 % 256) + pop 8 (x / 281474976710656 % 256) + pop 8 (x / 72057594037927936 % 256) := by
  have sp := fun n y => pop_split 8 n y
  have h0 := sp 56 x
  have h1 := sp 48 (x / 2 ^ 8)
  have h2 := sp 40 (x / 2 ^ 8 / 2 ^ 8)
  have h3 := sp 32 (x / 2 ^ 8 / 2 ^ 8 / 2 ^ 8)
  have h4 := sp 24 (x / 2 ^ 8 / 2 ^ 8 / 2 ^ 8 / 2 ^ 8)
  have h5 := sp 16 (x / 2 ^ 8 / 2 ^ 8 / 2 ^ 8 / 2 ^ 8 / 2 ^ 8)
  have h6 := sp 8 (x / 2 ^ 8 / 2 ^ 8 / 2 ^ 8 / 2 ^ 8 / 2 ^ 8 / 2 ^ 8)
  have h7 := sp 0 (x / 2 ^ 8 / 2 ^ 8 / 2 ^ 8 / 2 ^ 8 / 2 ^ 8 / 2 ^ 8 / 2 ^ 8)
  simp only [Nat.div_div_eq_div_mul, Nat.reducePow, Nat.reduceMul, Nat.reduceAdd] at h0 h1 h2 h3 h4 h5 h6 h7
  have hz : ∀ y, pop 0 y = 0 := fun _ => rfl
  rw [hz] at h7
  omega
theorem last_sum (x : Nat) : let z := byt (pop 8) 8 x
    let x4 := z + z / 256
    let x5 := x4 + x4 / 65536
    let x6 := x5 + x5 / 4294967296
    x6 % 128 = pop 64 x ∧ x6 < 9223372036854775808 ∧ z < 9223372036854775808 ∧ x4 < 9223372036854775808 ∧ x5 < 9223372036854775808 := by
  rw [pop64]
  have hz : byt (pop 8) 8 x = pop 8 (x % 256) + 256 * (pop 8 (x / 256 % 256) + 256 * (pop 8 (x / 65536 % 256) + 256 * (pop 8 (x / 16777216 % 256) + 256 * (pop 8 (x / 4294967296 % 256) + 256 * (pop 8 (x / 1099511627776 % 256) + 256 * (pop 8 (x / 281474976710656 % 256) + 256 * (pop 8 (x / 72057594037927936 % 256)))))))) := by
    simp only [byt, Nat.div_div_eq_div_mul, Nat.reduceMul, Nat.mul_zero, Nat.add_zero]
  simp only
  rw [hz]
  have h0 := pop_le 8 (x % 256)
  have h1 := pop_le 8 (x / 256 % 256)
  have h2 := pop_le 8 (x / 65536 % 256)
  have h3 := pop_le 8 (x / 16777216 % 256)
  have h4 := pop_le 8 (x / 4294967296 % 256)
  have h5 := pop_le 8 (x / 1099511627776 % 256)
  have h6 := pop_le 8 (x / 281474976710656 % 256)
  have h7 := pop_le 8 (x / 72057594037927936 % 256)
  clear hz
  generalize pop 8 (x % 256) = c0 at *
  generalize pop 8 (x / 256 % 256) = c1 at *
  generalize pop 8 (x / 65536 % 256) = c2 at *
  generalize pop 8 (x / 16777216 % 256) = c3 at *
  generalize pop 8 (x / 4294967296 % 256) = c4 at *
  generalize pop 8 (x / 1099511627776 % 256) = c5 at *
  generalize pop 8 (x / 281474976710656 % 256) = c6 at *
  generalize pop 8 (x / 72057594037927936 % 256) = c7 at *
  obtain ⟨z6, hz6⟩ : ∃ z6, z6 = c6 + 256 * c7 := ⟨_, rfl⟩
  obtain ⟨z5, hz5⟩ : ∃ z5, z5 = c5 + 256 * z6 := ⟨_, rfl⟩
  obtain ⟨z4, hz4⟩ : ∃ z4, z4 = c4 + 256 * z5 := ⟨_, rfl⟩
  obtain ⟨z3, hz3⟩ : ∃ z3, z3 = c3 + 256 * z4 := ⟨_, rfl⟩
  obtain ⟨z2, hz2⟩ : ∃ z2, z2 = c2 + 256 * z3 := ⟨_, rfl⟩
  obtain ⟨z1, hz1⟩ : ∃ z1, z1 = c1 + 256 * z2 := ⟨_, rfl⟩
  rw [← hz6, ← hz5, ← hz4, ← hz3, ← hz2, ← hz1]
  have e1 : (c0 + 256 * z1) / 256 = z1 := by omega
  rw [e1]
  have e2 : (c0 + 256 * z1 + z1) / 65536 = z2 + z3 := by omega
  rw [e2]
  have e3 : (c0 + 256 * z1 + z1 + (z2 + z3)) / 4294967296 = z4 + z5 + z6 + c7 := by
    have f0 : z1 = c1 + 256 * c2 + 65536 * c3 + 16777216 * z4 := by omega
    have f1 : z2 = c2 + 256 * c3 + 65536 * c4 + 16777216 * z5 := by omega
    have f2 : z3 = c3 + 256 * c4 + 65536 * c5 + 16777216 * z6 := by omega
    have f3 : z4 = c4 + 256 * z5 := hz4
    have g1 : z5 = c5 + 256 * z6 := hz5
    have g2 : z6 = c6 + 256 * c7 := hz6
    omega
  rw [e3]
  have b6 : z6 ≤ 2056 := by omega
  have b5 : z5 ≤ 526344 := by omega
  have b4 : z4 ≤ 134744072 := by omega
  have b3 : z3 ≤ 34494482440 := by omega
  have b2 : z2 ≤ 8830587504648 := by omega
  have b1 : z1 ≤ 2260630401189896 := by omega
  refine ⟨?_, by omega, by omega, by omega, by omega⟩
  omega
end Go.Proofs.YtcjlcbnjkkglbaaDoor
