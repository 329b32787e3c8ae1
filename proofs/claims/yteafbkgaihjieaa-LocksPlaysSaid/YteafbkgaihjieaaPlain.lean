/-
  The plain table of locks: who holds which lock, as a function of the lock (-1: nobody), and what a try and a free answer and leave. No program in sight.
-/
namespace Go.Proofs.Yteafbkgaihjieaa

/-- An int of Go's. -/
def I64 (x : Int) : Prop := -9223372036854775808 ≤ x ∧ x ≤ 9223372036854775807
/-- What the table's cell holds for a holder: the holder and 1, gone round. -/
def enc (x : Int) : Int := if x = 9223372036854775807 then -9223372036854775808 else x + 1
/-- The holder that a cell's number tells. -/
def dec (y : Int) : Int := if y = -9223372036854775808 then 9223372036854775807 else y - 1
theorem dec_enc (x : Int) (h : I64 x) : dec (enc x) = x := by unfold dec enc; obtain ⟨_, _⟩ := h; split <;> split <;> omega
theorem enc_inj {x y : Int} (hx : I64 x) (hy : I64 y) (h : enc x = enc y) : x = y := by rw [← dec_enc x hx, ← dec_enc y hy, h]
theorem enc_zero {x : Int} (hx : I64 x) : enc x = 0 ↔ x = -1 := by unfold enc; obtain ⟨_, _⟩ := hx; split <;> omega
theorem enc_range {x : Int} (hx : I64 x) : I64 (enc x) := by unfold enc I64; obtain ⟨_, _⟩ := hx; split <;> omega

abbrev Hold := Nat → Int
def upd (h : Hold) (k : Nat) (v : Int) : Hold := fun j => if j = k then v else h j
def free : Hold := fun _ => -1
/-- Each holder is nobody (-1) or one who may be. -/
def OkH (h : Hold) : Prop := ∀ k, -1 ≤ h k ∧ h k ≤ 9223372036854775807
theorem OkH.i64 {h : Hold} (o : OkH h) (k : Nat) : I64 (h k) := by have := o k; exact ⟨by omega, by omega⟩
theorem okH_free : OkH free := fun _ => by unfold free; omega
theorem okH_upd {h : Hold} (o : OkH h) (k : Nat) {v : Int} (h1 : -1 ≤ v) (h2 : v ≤ 9223372036854775807) : OkH (upd h k v) := fun j => by
  unfold upd; split
  · exact ⟨h1, h2⟩
  · exact o j

/-- Does somebody hold one of the locks from k on? -/
def above (n : Nat) (h : Hold) (who : Int) (k : Nat) : Bool := (List.range n).any fun i => decide (k ≤ i) && (h i == who)
theorem above_iff (n : Nat) (h : Hold) (who : Int) (k : Nat) : above n h who k = true ↔ ∃ i, k ≤ i ∧ i < n ∧ h i = who := by
  unfold above
  rw [List.any_eq_true]
  constructor
  · rintro ⟨i, hi, hq⟩; simp at hi hq; exact ⟨i, hq.1, hi, hq.2⟩
  · rintro ⟨i, h1, h2, h3⟩; exact ⟨i, by simpa using h2, by simp [h1, h3]⟩
theorem above_false (n : Nat) (h : Hold) (who : Int) (k : Nat) : above n h who k = false ↔ ∀ i, k ≤ i → i < n → h i ≠ who := by
  rw [← Bool.not_eq_true, above_iff]
  constructor
  · intro hh i h1 h2 h3; exact hh ⟨i, h1, h2, h3⟩
  · rintro hh ⟨i, h1, h2, h3⟩; exact hh i h1 h2 h3

def bad (n : Nat) (who lock : Int) : Bool := decide (who < 0) || decide (lock < 0) || decide ((n : Int) ≤ lock)
/-- A try: taken, the errno, what is left. -/
def tryF (n : Nat) (h : Hold) (who lock : Int) : Bool × Int × Hold :=
  if bad n who lock then (false, 2, h) else
  if above n h who lock.toNat then (false, 50, h) else
  if h lock.toNat = -1 then (true, 0, upd h lock.toNat who) else (false, 0, h)
/-- A free: the errno, what is left. -/
def freeF (n : Nat) (h : Hold) (who lock : Int) : Int × Hold :=
  if bad n who lock then (2, h) else
  if h lock.toNat = who then (0, upd h lock.toNat (-1)) else (7, h)
def holderF (n : Nat) (h : Hold) (lock : Int) : Int := if bad n 0 lock then -1 else h lock.toNat
/-- The locks below m that somebody holds, rising. -/
def heldF (h : Hold) (who : Int) (m : Nat) : List Int := ((List.range m).filter fun i => decide (0 ≤ who) && (h i == who)).map fun (i : Nat) => (i : Int)

end Go.Proofs.Yteafbkgaihjieaa
