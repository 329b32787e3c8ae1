/-
  A drawn region that only reads, in the round of a range over a function: the quiet walk outside a round serves. It speaks of no program.
-/
import Derived.Test.YtcjlcbnjkkglbaaDoorRF
import Derived.Sort.QuietIn
namespace Go.Proofs.YtcjlcbnjkkglbaaDoor
open Go.RowKit
def noDefer (o : Oper) : Bool := match o.op with | .defer _ => false | _ => true
section
variable {F : Fence} {n : Nat} {P : Program} {ops : Array Oper} {Q : Exit → Act → World → Prop} {md : Region.Mode}
theorem wpOp_round {o : Oper} {a : Act} {w : World} {K : Act → World → Prop} (l : Nat) (hd : noDefer o = true) (h : o.wpIn F n P a w K Q) : o.wpIn (F.inRound l) n P a w K Q := by
  have hnd : ∀ c, o.op ≠ .defer c := fun c e => by unfold noDefer at hd; rw [e] at hd; cases hd
  unfold Oper.wpIn at *
  refine ⟨h.1, ?_⟩
  have h2 := h.2
  rw [Oper.semAt_plain F _ _ hnd] at h2
  rw [Oper.semAt_plain (F.inRound l) _ _ hnd]
  generalize (execOp a.eval o).run P w = r at *
  cases r with
  | ok x w' => cases x <;> exact h2
  | halt x w' => cases x <;> exact h2
theorem wpAny_round (l : Nat) (hd : ∀ (i : Nat) (o : Oper), ops[i]? = some o → noDefer o = true) : ∀ (fuel : Nat) (listed : Array Bool) (a : Act) (w : World), wpAnyIn F n P md ops Q fuel listed a w → wpAnyIn (F.inRound l) n P md ops Q fuel listed a w
  | 0, _, _, _, h => h
  | fuel + 1, listed, a, w, h => by
    refine ⟨h.1, fun i hi => ?_⟩
    have h2 := wpOpIn_mono (fun a w => wpAny_round l hd fuel (listed.setIfInBounds i true) a w) (h.2 i hi)
    unfold wpOpIn at *
    cases ho : ops[i]? with
    | none => rw [ho] at h2; exact h2
    | some o =>
      rw [ho] at h2
      simp only at h2 ⊢
      split
      · rename_i hw
        rw [if_pos hw] at h2
        exact wpOp_round l (hd i o ho) h2
      · rename_i hw
        rw [if_neg hw] at h2
        exact h2
theorem region_quiet_round {id l : Nat} {a : Act} {w : World} {os : List Oper} (hro : F.round = none) (hm : P.follows .mixedOrders = true) (hB : Region.lexB .any os.toArray = true) (hd : os.all noDefer = true)
    (h : wpQuietIn F n P os.toArray (fun w' => ∃ n, w' = w.drewN n) (fun a' => ∀ w', (∃ n, w' = w.drewN n) → Q .normal a' w') os a) : (Code.region id os.toArray true).wpIn (F.inRound l) n P Q a w := by
  have hB' := hB
  simp only [Region.lexB, Bool.and_eq_true] at hB'
  refine wpIn_region_any hm (wpAny_round l (fun i o ho => ?_) _ _ _ _ (wpAnyIn_of_quiet (C := fun w' => ∃ n, w' = w.drewN n) (Q := fun a' => ∀ w', (∃ n, w' = w.drewN n) → Q .normal a' w') hro (fun _ w' hw' h => h w' hw') _ _ _ _ ⟨1, rfl⟩ ?_))
  · rw [List.getElem?_toArray] at ho
    exact List.all_eq_true.1 hd o (List.mem_of_getElem? ho)
  · have := wpAnyQIn_lex (F := F) (n := n) (C := fun w' => ∃ n, w' = w.drewN n) (md := .any) hB'.1 os.toArray.toList 0 (Array.replicate os.toArray.size false) a (by simp) (by simpa using hB'.2) (by simpa using h)
    simpa using this
end
end Go.Proofs.YtcjlcbnjkkglbaaDoor
