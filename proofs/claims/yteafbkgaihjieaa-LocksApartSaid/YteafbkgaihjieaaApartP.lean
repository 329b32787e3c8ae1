/-
  Tries and frees of two people at two locks, in either order, on the plain table.
-/
import Derived.Test.YteafbkgaihjieaaPlain
namespace Go.Proofs.Yteafbkgaihjieaa

def doF (n : Nat) (h : Hold) (k who lock : Int) : Bool × Int × Hold := if k = 1 then (false, (freeF n h who lock).1, (freeF n h who lock).2) else tryF n h who lock
/-- What an answer says of what is left. -/
def eff (k who lock : Int) (r : Bool) (e : Int) (h : Hold) : Hold := if k = 1 then (if e = 0 then upd h lock.toNat (-1) else h) else if r then upd h lock.toNat who else h

theorem do_eff (n : Nat) (h : Hold) (k who lock : Int) : (doF n h k who lock).2.2 = eff k who lock (doF n h k who lock).1 (doF n h k who lock).2.1 h := by
  unfold doF eff
  split
  · unfold freeF
    split
    · simp
    · split <;> simp
  · unfold tryF
    split
    · simp
    · split
      · simp
      · split <;> simp
theorem do_bad (n : Nat) (h : Hold) (k who lock : Int) (hb : bad n who lock = true) : doF n h k who lock = (false, 2, h) := by
  unfold doF freeF tryF
  rw [hb]; split <;> rfl
/-- Seen by one at one lock, two tables are the same. -/
def Alike (who : Int) (L : Nat) (h h' : Hold) : Prop := h' L = h L ∧ ∀ j, h' j = who ↔ h j = who
theorem do_alike {n : Nat} {h h' : Hold} {k who lock : Int} (a : Alike who lock.toNat h h') : (doF n h' k who lock).1 = (doF n h k who lock).1 ∧ (doF n h' k who lock).2.1 = (doF n h k who lock).2.1 := by
  have hab : above n h' who lock.toNat = above n h who lock.toNat := by
    rw [Bool.eq_iff_iff, above_iff, above_iff]
    constructor
    · rintro ⟨i, h1, h2, h3⟩; exact ⟨i, h1, h2, (a.2 i).1 h3⟩
    · rintro ⟨i, h1, h2, h3⟩; exact ⟨i, h1, h2, (a.2 i).2 h3⟩
  unfold doF freeF tryF
  rw [hab, a.1]
  split
  · split
    · exact ⟨rfl, rfl⟩
    · split <;> exact ⟨rfl, rfl⟩
  · split
    · exact ⟨rfl, rfl⟩
    · split
      · exact ⟨rfl, rfl⟩
      · split <;> exact ⟨rfl, rfl⟩
/-- Another one's step at another lock turns nothing that one sees. -/
theorem upd_alike {h : Hold} {m : Nat} {v other : Int} {L : Nat} (hm : m ≠ L) (hv : v ≠ other) (ho : h m ≠ other) : Alike other L h (upd h m v) := by
  refine ⟨by unfold upd; rw [if_neg (fun e => hm e.symm)], fun j => ?_⟩
  unfold upd
  split
  · rename_i ej
    subst ej
    exact ⟨fun e => absurd e hv, fun e => absurd e ho⟩
  · exact Iff.rfl
theorem alike_do {n : Nat} {h : Hold} {k who lock other : Int} {L : Nat} (h0 : 0 ≤ other) (hw : who ≠ other) (hL : lock.toNat ≠ L) : Alike other L h (doF n h k who lock).2.2 := by
  unfold doF
  split
  · unfold freeF
    split
    · exact ⟨rfl, fun _ => Iff.rfl⟩
    · split
      · rename_i _ hq
        exact upd_alike hL (by omega) (by rw [hq]; exact hw)
      · exact ⟨rfl, fun _ => Iff.rfl⟩
  · unfold tryF
    split
    · exact ⟨rfl, fun _ => Iff.rfl⟩
    · split
      · exact ⟨rfl, fun _ => Iff.rfl⟩
      · split
        · rename_i _ _ hq
          exact upd_alike hL hw (by rw [hq]; omega)
        · exact ⟨rfl, fun _ => Iff.rfl⟩
theorem good_of {n : Nat} {who lock : Int} (h : ¬ bad n who lock = true) : 0 ≤ who ∧ 0 ≤ lock ∧ lock < n := by
  unfold bad at h; simp at h; omega
/-- The answer does not hang on whether the other one was first. -/
theorem do_behind (n : Nat) (h : Hold) (k who lock k' who' lock' : Int) (hw : who ≠ who') (hl : lock ≠ lock') :
    (doF n (doF n h k' who' lock').2.2 k who lock).1 = (doF n h k who lock).1 ∧ (doF n (doF n h k' who' lock').2.2 k who lock).2.1 = (doF n h k who lock).2.1 := by
  by_cases hb : bad n who lock = true
  · rw [do_bad n h k who lock hb, do_bad n _ k who lock hb]; exact ⟨rfl, rfl⟩
  · by_cases hb' : bad n who' lock' = true
    · rw [do_bad n h k' who' lock' hb']; exact ⟨rfl, rfl⟩
    · obtain ⟨h1, h2, h3⟩ := good_of hb
      obtain ⟨h4, h5, h6⟩ := good_of hb'
      exact do_alike (alike_do h1 (fun e => hw e.symm) (by omega))
theorem eff_comm {n : Nat} (h : Hold) (k who lock k' who' lock' : Int) (r r' : Bool) (e e' : Int) (hl : lock.toNat ≠ lock'.toNat) : eff k who lock r e (eff k' who' lock' r' e' h) = eff k' who' lock' r' e' (eff k who lock r e h) := by
  funext j
  unfold eff
  split <;> split <;> (repeat' split) <;> (try rfl) <;> (unfold upd; (repeat' split) <;> first | rfl | omega)
/-- What is left does not hang on the order. -/
theorem do_comm (n : Nat) (h : Hold) (k who lock k' who' lock' : Int) (hw : who ≠ who') (hl : lock ≠ lock') :
    (doF n (doF n h k who lock).2.2 k' who' lock').2.2 = (doF n (doF n h k' who' lock').2.2 k who lock).2.2 := by
  by_cases hb : bad n who lock = true
  · rw [do_bad n h k who lock hb, do_bad n _ k who lock hb]
  · by_cases hb' : bad n who' lock' = true
    · rw [do_bad n h k' who' lock' hb', do_bad n _ k' who' lock' hb']
    · obtain ⟨h1, h2, h3⟩ := good_of hb
      obtain ⟨h4, h5, h6⟩ := good_of hb'
      obtain ⟨a1, a2⟩ := do_behind n h k who lock k' who' lock' hw hl
      obtain ⟨b1, b2⟩ := do_behind n h k' who' lock' k who lock (fun e => hw e.symm) (fun e => hl e.symm)
      rw [do_eff n _ k' who' lock', b1, b2, do_eff n h k who lock, do_eff n _ k who lock, a1, a2, do_eff n h k' who' lock']
      exact eff_comm (n := n) h k' who' lock' k who lock _ _ _ _ (by omega)
end Go.Proofs.Yteafbkgaihjieaa
