/-
  Two more laws on ranges over functions. They speak of no program.
-/
import Derived.Test.YtljgpiljfigojaaRF
namespace Go.Proofs.Ytljgpiljfigojaa
open Go.RowKit
/-- .. of an iterator that tells nothing. -/
theorem wp_range_nil {α : Type} {P : Program} {g : Operand} {ps : Array Tmp} {assign body : Code} {Q : Exit → Act → World → Prop} {a : Act} {w : World}
    {gf : Nat} {lb : Array Value} (hg : a.eval g = .func (.func gf) #[] lb) (eg : ∀ args w, (callFunc gf args).run P w = .ok (.enter gf args) w)
    {encs : α → Array Value} {Keep : Nat → Prop} (hseq : Tells P gf lb encs Keep [] w) (hkeep : ∀ k, Keep k → k < w.heap.size) (hps : ∀ x, (encs x).size = ps.size)
    (hassign : ∀ (l : Nat) (x : α) (W : World) (K : Act → World → Prop), (∀ a', K a' W) →
      assign.wpIn (Fence.wide.inRound l) 7 P (Exit.then K (fun _ _ _ => False)) { tmps := (ps.zip (encs x)).foldl (fun t (p, v) => t.setIfInBounds p v) a.tmps, defers := [] } W)
    (hdone : ∀ (D : Nat) (W : World), w.heap.size ≤ D → Below w.heap.size w W → W.heap[D]? = some (.deferred (some [])) → Q .normal { a with defers := { target := .collected D, args := #[] } :: a.defers } W) :
    (Code.rangeFunc g ps assign body).wp P Q a w :=
  wp_range hg eg hseq hkeep hps (fun _ W => Below w.heap.size w W) (fun _ _ _ => False) (fun _ _ _ h k => h.trans (k.below (Nat.le_refl _) h.size)) (fun _ _ _ _ h _ => h) (Below.refl _ _)
    (fun _ _ _ => True) (fun _ _ _ _ h _ => h) (fun l pre x W K hI hK => hassign l x W K (fun a' => hK a' W (KeepsFrom.refl _ _) (fun _ _ => rfl) hI trivial))
    (fun _ _ _ _ _ _ _ _ _ h => absurd h (Nat.not_lt_zero _)) (fun D W hD hI hk => hdone D W hD hI hk) (fun _ _ _ _ _ _ h _ => h.elim)

/-- A loop in whose rounds such loops stand: the marks are many. -/
theorem wp_loop_marks {P : Program} {c : Code} {Q : Exit → Act → World → Prop} (I : Array Value → List Nat → World → Prop) (μ : Array Value → World → Nat) {T0 : Array Value} {Ds0 : List Nat} {w : World} (h0 : I T0 Ds0 w)
    (round : ∀ T Ds w, I T Ds w → c.wp P (Exit.then (fun a' w' => ∃ Ds', a'.defers = Ds'.map mark ∧ I a'.tmps Ds' w' ∧ μ a'.tmps w' < μ T w) Q) { tmps := T, defers := Ds.map mark } w) :
    (Code.loop c).wp P Q { tmps := T0, defers := Ds0.map mark } w := by
  refine wp_loop (fun a w => ∃ Ds, a.defers = Ds.map mark ∧ I a.tmps Ds w) (fun a w => μ a.tmps w) ⟨Ds0, rfl, h0⟩ ?_
  rintro ⟨T, ds⟩ w ⟨Ds, rfl, hI⟩
  refine wp_mono (round T Ds w hI) ?_
  intro e a' w' h
  cases e with
  | normal =>
    obtain ⟨Ds', h1, h2, h3⟩ := h
    exact ⟨⟨Ds', h1, h2⟩, h3⟩
  | _ => exact h
end Go.Proofs.Ytljgpiljfigojaa
