/-
  One more law on ranges over functions. It speaks of no program.
-/
import Derived.Test.YtljgpiljfigojaaRF2
namespace Go.Proofs.Ytljgpiljfigojaa
open Go.RowKit
/-- .. whose one loop variable lies in slot q: what the loop's assignment leaves is reckoned off the frame. -/
theorem wp_range1 {α : Type} {P : Program} {g : Operand} {assign body : Code} {Q : Exit → Act → World → Prop} {a : Act} {w : World} (p q : Nat)
    {gf : Nat} {lb : Array Value} (hg : a.eval g = .func (.func gf) #[] lb) (eg : ∀ args w, (callFunc gf args).run P w = .ok (.enter gf args) w)
    {enc : α → Value} {Keep : Nat → Prop} {L : List α} (hseq : Tells P gf lb (fun x => #[enc x]) Keep L w) (hkeep : ∀ k, Keep k → k < w.heap.size)
    (I : List α → World → Prop) (Ix : Code → List α → World → Prop) (hI : ∀ s W W', I s W → Step w.heap.size W W' → I s W') (hIx : ∀ c s W W', Ix c s W → Step w.heap.size W W' → Ix c s W') (h0 : I [] w)
    (hassign : ∀ (l : Nat) (x : α) (W : World) (K : Act → World → Prop), K { tmps := (a.tmps.setIfInBounds p (enc x)).setIfInBounds q (enc x), defers := [] } W →
      assign.wpIn (Fence.wide.inRound l) 7 P (Exit.then K (fun _ _ _ => False)) { tmps := a.tmps.setIfInBounds p (enc x), defers := [] } W)
    (hbody : ∀ (l : Nat) (pre : List α) (x : α) (W : World), w.heap.size ≤ l → I pre W → pre.length < L.length →
      body.wpIn (Fence.wide.inRound l) 7 P (ownPostG w.heap.size (Kept Keep) I Ix (pre ++ [x]) W) { tmps := (a.tmps.setIfInBounds p (enc x)).setIfInBounds q (enc x), defers := [] } W)
    (hdone : ∀ (D : Nat) (W : World), w.heap.size ≤ D → I L W → W.heap[D]? = some (.deferred (some [])) → Q .normal { a with defers := { target := .collected D, args := #[] } :: a.defers } W)
    (hstop : ∀ (D : Nat) (c : Code) (pre : List α) (W : World), w.heap.size ≤ D → pre <+: L → Ix c pre W → W.heap[D]? = some (.deferred (some [])) → c.wp P Q { a with defers := { target := .collected D, args := #[] } :: a.defers } W) :
    (Code.rangeFunc g #[p] assign body).wp P Q a w :=
  wp_range hg eg hseq hkeep (fun _ => rfl) I Ix hI hIx h0 (fun x a' _ => a' = { tmps := (a.tmps.setIfInBounds p (enc x)).setIfInBounds q (enc x), defers := [] }) (fun _ _ _ _ h _ => h)
    (fun l pre x W K hi hK => by
      have h := hassign l x W K (hK _ W (KeepsFrom.refl _ _) (fun _ _ => rfl) hi rfl)
      simpa using h)
    (fun l pre x a' W hl _ hi ha hlen => by subst ha; exact hbody l pre x W hl hi hlen) hdone hstop

end Go.Proofs.Ytljgpiljfigojaa
