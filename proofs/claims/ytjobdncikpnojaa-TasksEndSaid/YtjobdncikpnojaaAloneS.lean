/-
  A program alone, run by the model: behind i steps.
-/
import Derived.Test.YtjobdncikpnojaaState
import Derived.Test.YtjobdncikpnojaaAloneP
namespace Go.Proofs.Ytjobdncikpnojaa
open Go.RowKit
theorem PB.func {w : World} {K TB : Nat} {who : Int} {v : Value} {L : List (Int × Int)} (h : PB w K TB who v L) (hL : 0 < L.length) : ∃ a b c, v = .func a b c := by
  cases L with
  | nil => simp at hL
  | cons x r =>
    have := h.stepV
    generalize hz : (x :: r).isEmpty = z at this
    cases this with
    | nil => simp at hz
    | fn a b c => exact ⟨a, b, c, rfl⟩
/-- Behind i steps of a program that runs alone. -/
def AloneAt (w0 w : World) (T B Z K TB : Nat) (P : List Int) (i : Nat) : Prop :=
  ∃ nx dn a c g, SW w0 w T B 1 nx dn Z K TB (foldS 0 (Lk.free, []) ((actsA P).take i)).1 a c g (foldS 0 (Lk.free, []) ((actsA P).take i)).2 ∧ PB w K TB 0 (nx 0) ((actsA P).drop i) ∧ dn 0 = (i : Int)
theorem alone_step {w0 w : World} {T B Z K TB : Nat} {P : List Int} {i : Nat} (s : AloneAt w0 w T B Z K TB P i) (hi : i < (actsA P).length) (hP : P.length ≤ 30) (f : Bool) :
    Calls Try.prog 8 #[ptr T, .int .i64 0, .bool f] w fun e w' => e = .returned (.tuple #[.bool (decide (i + 1 = (actsA P).length)), .int .i64 0]) ∧ AloneAt w0 w' T B Z K TB P (i + 1) := by
  obtain ⟨nx, dn, a, c, g, sw, hp, hd⟩ := s
  have hl := actsA_len P
  obtain ⟨x, hx⟩ : ∃ x, (actsA P)[i]? = some x := ⟨_, List.getElem?_eq_getElem hi⟩
  have hdrop : (actsA P).drop i = x :: (actsA P).drop (i + 1) := by
    rw [List.drop_eq_getElem_cons hi]
    congr 1
    rw [List.getElem?_eq_getElem hi] at hx
    exact Option.some.inj hx
  rw [hdrop] at hp
  have hon := alone_on P [] i x hx
  have htl := alone_len P ((actsA P).take i) []
  simp only [List.length_nil, List.length_take] at htl
  have h2 := run_step sw 0 (by decide) f (by decide) hp (by omega) (by omega) (by omega)
  rw [hon] at h2
  have hrest : restF 2 x ((actsA P).drop (i + 1)) = (actsA P).drop (i + 1) := rfl
  rw [hrest] at h2
  have htake : (actsA P).take (i + 1) = (actsA P).take i ++ [x] := by rw [List.take_add_one, hx]; rfl
  refine h2.mono ?_
  rintro e w' ⟨v2, a', c', g', rfl, s', _, hp'⟩
  have he : ((actsA P).drop (i + 1)).isEmpty = decide (i + 1 = (actsA P).length) := by
    rw [Bool.eq_iff_iff]
    simp
    omega
  refine ⟨by rw [he], upV nx 0 v2, upI dn 0 (dn 0 + 1), a', c', g', ?_, hp', ?_⟩
  · rw [htake, foldS_snoc]
    exact s'
  · show upI dn 0 (dn 0 + 1) 0 = _
    unfold upI
    rw [if_pos rfl, hd]
    omega
theorem alone_start {w0 w : World} {T B Z K TB : Nat} {nx : Nat → Value} {dn : Nat → Int} {P : List Int} {v : Value} (s : SW w0 w T B 1 nx dn Z K TB Lk.free none 0 TB []) (hp : PB w K TB 0 v (actsA P)) (hd : dn 0 = 0) :
    AloneAt w0 (w.setCell ⟨B, 0 * 2, none⟩ v) T B Z K TB P 0 := by
  obtain ⟨s2, k2⟩ := s.slot (s.tt.setN 0 v)
  exact ⟨_, dn, none, 0, TB, s2, hp.keep k2, hd⟩
theorem alone_end {w0 w : World} {T B Z K TB : Nat} {P : List Int} {i : Nat} (s : AloneAt w0 w T B Z K TB P i) (hi : i = (actsA P).length) :
    ∃ nx dn a c g, SW w0 w T B 1 nx dn Z K TB Lk.free a c g (P.map fun n => (0, lk8 n)) ∧ dn 0 = (i : Int) := by
  obtain ⟨nx, dn, a, c, g, sw, _, hd⟩ := s
  rw [List.take_of_length_le (by omega), alone_told, List.nil_append] at sw
  exact ⟨nx, dn, a, c, g, sw, hd⟩
end Go.Proofs.Ytjobdncikpnojaa
