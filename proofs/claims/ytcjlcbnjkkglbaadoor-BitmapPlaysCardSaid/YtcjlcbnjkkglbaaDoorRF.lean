/-
  A range over a function, for a walk outside a fence: the law with what an iterator tells; the function's return behind such loops. It speaks of no program.
-/
import Derived.Test.YtcjlcbnjkkglbaaDoorOwn
import Derived.RangeFuncNested
import Derived.RangeFuncBound
import Derived.RangeFuncCalls
import Derived.RangeFuncLeaves
import Derived.OwnWalkIn
import Derived.TacticsInMore
import Derived.LoopNIn
import Derived.LoopIn
namespace Go.Proofs.YtcjlcbnjkkglbaaDoor
open Go.RowKit

/-- A step of the loop's book-keeping: new blocks; at most one block that lay is turned, one from B on that holds no cells. -/
structure Step (B : Nat) (W W' : World) : Prop where
  grown : ∃ row, W.grownBy W' row ∧ ∀ r, row = some r → B ≤ r ∧ ∃ o : Obj, W.heap[r]? = some o ∧ o.isCells = false
section
variable {B : Nat} {W W' : World}
theorem Step.size (s : Step B W W') : W.heap.size ≤ W'.heap.size := by obtain ⟨_, h, _⟩ := s.grown; exact h.size
theorem Step.below (s : Step B W W') {B' : Nat} (hB : B' ≤ B) (hW : B' ≤ W.heap.size) : Below B' W W' := by
  obtain ⟨row, h, hr⟩ := s.grown
  exact ⟨h.os, h.tape, h.output, h.size, fun k hk => h.block k (by omega) (fun e => by have := (hr k e.symm).1; omega)⟩
theorem Step.cells (s : Step B W W') {k : Nat} {c : Array Value} {t : TypeId} {f : Nat × Nat} (h : W.heap[k]? = some (.cells c t f)) : W'.heap[k]? = W.heap[k]? := by
  obtain ⟨row, hg, hr⟩ := s.grown
  refine hg.block k (Array.getElem?_eq_some_iff.1 h).1 (fun e => ?_)
  obtain ⟨_, o, ho, hc⟩ := hr k e.symm
  rw [h] at ho; cases ho; cases hc
theorem rowIs_step {b t n : Nat} {f : Nat → Value} (r : W.rowIs b t n f) (s : Step B W W') : W'.rowIs b t n f := by
  have r' := r
  obtain ⟨c, hc, _⟩ := r
  exact r'.of_block (s.cells hc)
theorem OwnAt.step {base e size n c g : Nat} {a : Option Addr} {xs : List Value} (h : OwnAt W base e size a n c g xs) (s : Step B W W') : OwnAt W' base e size a n c g xs :=
  h.of_block s.size fun ha => by
    rcases h.own.2 with ⟨h1, h2⟩ | ⟨g', cap, cur, h1, hb, hg, _⟩
    · cases h1; exact absurd rfl ha
    · cases h1
      have e := (h.blk _ rfl).1
      cases e
      exact s.cells hg
theorem boxed_step {b t : Nat} {v : Value} (h : Boxed W b t v) (s : Step B W W') : Boxed W' b t v := (s.cells h).trans h
theorem cell_step {p : Addr} {v : Value} (h : W.cell? p = some v) (s : Step B W W') : W'.cell? p = some v := by
  obtain ⟨row, hg, hr⟩ := s.grown
  exact cell_kept h hg (fun r e => (hr r e).2)
end
theorem ownFrom_of {β : Type} {B : Nat} {I : β → World → Prop} (h : ∀ s W W', I s W → Step B W W' → I s W') : OwnFrom B I := fun s W W' row hs hg hr => h s W W' hs ⟨row, hg, hr⟩

/-- What keeps all blocks that hold no cells from B on. -/
theorem keeps_below {B : Nat} {W W' : World} (h : Below W.heap.size W W') : KeepsFrom B W W' := ⟨h.size, fun k o _ hk _ => (h.block k (Array.getElem?_eq_some_iff.1 hk).1).trans hk⟩
theorem keeps_only {B b : Nat} {W W' : World} (h : Only W W' b) (hc : ∀ o : Obj, W.heap[b]? = some o → o.isCells = true) : KeepsFrom B W W' :=
  ⟨h.size, fun k o _ hk ho => by
    refine (h.block k (Array.getElem?_eq_some_iff.1 hk).1 (fun e => ?_)).trans hk
    cases e
    rw [hc o hk] at ho; cases ho⟩
theorem keeps_only_lt {B b : Nat} {W W' : World} (h : Only W W' b) (hb : b < B) : KeepsFrom B W W' := KeepsFrom.of_grownBy h (fun j e => by cases e; exact hb)
theorem rowIs_cells {w : World} {b t n : Nat} {f : Nat → Value} (r : w.rowIs b t n f) : ∀ o : Obj, w.heap[b]? = some o → o.isCells = true := fun o ho => by
  obtain ⟨c, hc, _⟩ := r
  rw [hc] at ho; cases ho; rfl
theorem boxed_cells {w : World} {b t : Nat} {v : Value} (h : Boxed w b t v) : ∀ o : Obj, w.heap[b]? = some o → o.isCells = true := fun o ho => by
  rw [show w.heap[b]? = _ from h] at ho; cases ho; rfl
theorem keeps_set {B : Nat} (W : World) (a : Addr) (v : Value) : KeepsFrom B W (W.setCell a v) := (KeepsOthers.setCell W a v).from B
theorem boxed_below {w w' : World} {b t : Nat} {v : Value} (h : Boxed w b t v) (k : Below w.heap.size w w') : Boxed w' b t v := (k.block b h.lt).trans h
theorem boxed_only {w w' : World} {b t d : Nat} {v : Value} (h : Boxed w b t v) (k : Only w w' d) (hne : b ≠ d) : Boxed w' b t v := (k.block b h.lt (fun e => hne (by cases e; rfl))).trans h
theorem boxed_ne {w : World} {b t b' t' n : Nat} {v : Value} {f : Nat → Value} (h : Boxed w b t v) (r : w.rowIs b' t' n f) (ht : t ≠ t') : b ≠ b' := by
  rintro rfl
  obtain ⟨c, hc, _⟩ := r
  rw [show w.heap[b]? = _ from h] at hc
  injection hc with hc
  injection hc with _ h2
  exact ht h2

/-- What a round must keep: the blocks that the iterator reads. -/
def Kept (Keep : Nat → Prop) (W W' : World) : Prop := ∀ k, Keep k → W'.heap[k]? = W.heap[k]?
/-- What an iterator tells: L, one by one, of blocks Keep. -/
abbrev Tells {α : Type} (P : Program) (gf : Nat) (lb : Array Value) (encs : α → Array Value) (Keep : Nat → Prop) (L : List α) (w : World) : Prop :=
  SeqStopsK Fence.wide 8 P gf lb encs (Kept Keep) (fun xs => xs = L) (fun pre => pre <+: L) L.length w

/-- **A range over a function**, of an iterator that tells L. -/
theorem wp_range {α : Type} {P : Program} {g : Operand} {ps : Array Tmp} {assign body : Code} {Q : Exit → Act → World → Prop} {a : Act} {w : World}
    {gf : Nat} {lb : Array Value} (hg : a.eval g = .func (.func gf) #[] lb) (eg : ∀ args w, (callFunc gf args).run P w = .ok (.enter gf args) w)
    {encs : α → Array Value} {Keep : Nat → Prop} {L : List α} (hseq : Tells P gf lb encs Keep L w) (hkeep : ∀ k, Keep k → k < w.heap.size) (hps : ∀ x, (encs x).size = ps.size)
    (I : List α → World → Prop) (Ix : Code → List α → World → Prop) (hI : ∀ s W W', I s W → Step w.heap.size W W' → I s W') (hIx : ∀ c s W W', Ix c s W → Step w.heap.size W W' → Ix c s W') (h0 : I [] w)
    (Ax : α → Act → World → Prop) (hAx : ∀ x a' W W', Ax x a' W → Step w.heap.size W W' → Ax x a' W')
    (hassign : ∀ (l : Nat) (pre : List α) (x : α) (W : World) (K : Act → World → Prop), I pre W → (∀ a' W', KeepsFrom w.heap.size W W' → Kept Keep W W' → I pre W' → Ax x a' W' → K a' W') →
      assign.wpIn (Fence.wide.inRound l) 7 P (Exit.then K (fun _ _ _ => False)) { tmps := (ps.zip (encs x)).foldl (fun t (p, v) => t.setIfInBounds p v) a.tmps, defers := [] } W)
    (hbody : ∀ (l : Nat) (pre : List α) (x : α) (a' : Act) (W : World), w.heap.size ≤ l → (∃ r, W.heap[l]? = some (.loop r)) → I pre W → Ax x a' W → pre.length < L.length →
      body.wpIn (Fence.wide.inRound l) 7 P (ownPostG w.heap.size (Kept Keep) I Ix (pre ++ [x]) W) a' W)
    (hdone : ∀ (D : Nat) (W : World), w.heap.size ≤ D → I L W → W.heap[D]? = some (.deferred (some [])) → Q .normal { a with defers := { target := .collected D, args := #[] } :: a.defers } W)
    (hstop : ∀ (D : Nat) (c : Code) (pre : List α) (W : World), w.heap.size ≤ D → pre <+: L → Ix c pre W → W.heap[D]? = some (.deferred (some [])) → c.wp P Q { a with defers := { target := .collected D, args := #[] } :: a.defers } W) :
    (Code.rangeFunc g ps assign body).wp P Q a w := by
  refine (wpIn_wide (n := 9)).1 (wpIn_rangeFunc_ownH rfl (by omega) hg trivial eg hseq (fun h k i hi => (k i hi).trans (h i hi)) (fun W l o o' hl hW _ _ i hi => ?_) (Below.refl _ _) hps I Ix (ownFrom_of hI) (fun c => ownFrom_of (hIx c)) h0 Ax (fun x a' => ownFrom_of (fun _ => hAx x a')) hassign hbody
    (fun D xs W hD hxs hi hk => by subst hxs; exact hdone D W hD hi hk) (fun D c pre W hD hp hi hk => wpIn_wide.2 (hstop D c pre W hD hp hi hk)))
  exact World.putObj_heap_other (by have := hkeep i hi; omega)

/-- .. of an iterator that tells nothing. -/
theorem wp_range_nil {α : Type} {P : Program} {g : Operand} {ps : Array Tmp} {assign body : Code} {Q : Exit → Act → World → Prop} {a : Act} {w : World}
    {gf : Nat} {lb : Array Value} (hg : a.eval g = .func (.func gf) #[] lb) (eg : ∀ args w, (callFunc gf args).run P w = .ok (.enter gf args) w)
    {encs : α → Array Value} {Keep : Nat → Prop} (hseq : Tells P gf lb encs Keep [] w) (hkeep : ∀ k, Keep k → k < w.heap.size) (hps : ∀ x, (encs x).size = ps.size)
    (hassign : ∀ (l : Nat) (x : α) (W : World) (K : Act → World → Prop), (∀ a', K a' W) →
      assign.wpIn (Fence.wide.inRound l) 7 P (Exit.then K (fun _ _ _ => False)) { tmps := (ps.zip (encs x)).foldl (fun t (p, v) => t.setIfInBounds p v) a.tmps, defers := [] } W)
    (hdone : ∀ (D : Nat) (W : World), w.heap.size ≤ D → Below w.heap.size w W → W.heap[D]? = some (.deferred (some [])) → Q .normal { a with defers := { target := .collected D, args := #[] } :: a.defers } W) :
    (Code.rangeFunc g ps assign body).wp P Q a w :=
  wp_range hg eg hseq hkeep hps (fun _ W => Below w.heap.size w W) (fun _ _ _ => False) (fun _ _ _ h k => h.trans (k.below (Nat.le_refl _) h.size)) (fun _ _ _ _ h _ => h) (Below.refl _ _)
    (fun _ _ _ => True) (fun _ _ _ _ h _ => h) (fun l pre x W K hI hK => hassign l x W K (fun a' => hK a' W (KeepsFrom.refl _ _) (fun _ _ => rfl) hI trivial))
    (fun _ _ _ _ _ _ _ _ _ h => absurd h (Nat.not_lt_zero _)) (fun D W hD hI hk => hdone D W hD hI hk) (fun _ _ _ _ _ _ h _ => h.elim)

/-- .. whose one loop variable lies in slot q: what the loop's assignment leaves is reckoned off the frame. -/
theorem wp_range1 {α : Type} {P : Program} {g : Operand} {assign body : Code} {Q : Exit → Act → World → Prop} {a : Act} {w : World} (p q : Nat)
    {gf : Nat} {lb : Array Value} (hg : a.eval g = .func (.func gf) #[] lb) (eg : ∀ args w, (callFunc gf args).run P w = .ok (.enter gf args) w)
    {enc : α → Value} {Keep : Nat → Prop} {L : List α} (hseq : Tells P gf lb (fun x => #[enc x]) Keep L w) (hkeep : ∀ k, Keep k → k < w.heap.size)
    (I : List α → World → Prop) (Ix : Code → List α → World → Prop) (hI : ∀ s W W', I s W → Step w.heap.size W W' → I s W') (hIx : ∀ c s W W', Ix c s W → Step w.heap.size W W' → Ix c s W') (h0 : I [] w)
    (hassign : ∀ (l : Nat) (x : α) (W : World) (K : Act → World → Prop), K { tmps := (a.tmps.setIfInBounds p (enc x)).setIfInBounds q (enc x), defers := [] } W →
      assign.wpIn (Fence.wide.inRound l) 7 P (Exit.then K (fun _ _ _ => False)) { tmps := a.tmps.setIfInBounds p (enc x), defers := [] } W)
    (hbody : ∀ (l : Nat) (pre : List α) (x : α) (W : World), w.heap.size ≤ l → I pre W → pre.length < L.length →
      body.wpIn (Fence.wide.inRound l) 7 P (ownPostG w.heap.size (Kept Keep) I Ix (pre ++ [x]) W) { tmps := (a.tmps.setIfInBounds p (enc x)).setIfInBounds q (enc x), defers := [] } W)
    (hdone : ∀ (D : Nat) (W : World), w.heap.size ≤ D → I L W → W.heap[D]? = some (.deferred (some [])) → Q .normal { a with defers := { target := .collected D, args := #[] } :: a.defers } W)
    (hstop : ∀ (D : Nat) (c : Code) (pre : List α) (W : World), w.heap.size ≤ D → pre <+: L → Ix c pre W → W.heap[D]? = some (.deferred (some [])) → c.wp P Q { a with defers := { target := .collected D, args := #[] } :: a.defers } W) :
    (Code.rangeFunc g #[p] assign body).wp P Q a w :=
  wp_range hg eg hseq hkeep (fun _ => rfl) I Ix hI hIx h0 (fun x a' _ => a' = { tmps := (a.tmps.setIfInBounds p (enc x)).setIfInBounds q (enc x), defers := [] }) (fun _ _ _ _ h _ => h)
    (fun l pre x W K hi hK => by
      have h := hassign l x W K (hK _ W (KeepsFrom.refl _ _) (fun _ _ => rfl) hi rfl)
      simpa using h)
    (fun l pre x a' W hl _ hi ha hlen => by subst ha; exact hbody l pre x W hl hi hlen) hdone hstop

/-- A range over a function whose two loop variables lie in slots q, q'. -/
theorem wp_range2 {α : Type} {P : Program} {g : Operand} {assign body : Code} {Q : Exit → Act → World → Prop} {a : Act} {w : World} (p p' q q' : Nat)
    {gf : Nat} {lb : Array Value} (hg : a.eval g = .func (.func gf) #[] lb) (eg : ∀ args w, (callFunc gf args).run P w = .ok (.enter gf args) w)
    {e1 e2 : α → Value} {Keep : Nat → Prop} {L : List α} (hseq : Tells P gf lb (fun x => #[e1 x, e2 x]) Keep L w) (hkeep : ∀ k, Keep k → k < w.heap.size)
    (I : List α → World → Prop) (Ix : Code → List α → World → Prop) (hI : ∀ s W W', I s W → Step w.heap.size W W' → I s W') (hIx : ∀ c s W W', Ix c s W → Step w.heap.size W W' → Ix c s W') (h0 : I [] w)
    (hassign : ∀ (l : Nat) (x : α) (W : World) (K : Act → World → Prop), K { tmps := (((a.tmps.setIfInBounds p (e1 x)).setIfInBounds p' (e2 x)).setIfInBounds q (e1 x)).setIfInBounds q' (e2 x), defers := [] } W →
      assign.wpIn (Fence.wide.inRound l) 7 P (Exit.then K (fun _ _ _ => False)) { tmps := (a.tmps.setIfInBounds p (e1 x)).setIfInBounds p' (e2 x), defers := [] } W)
    (hbody : ∀ (l : Nat) (pre : List α) (x : α) (W : World), w.heap.size ≤ l → I pre W → pre.length < L.length →
      body.wpIn (Fence.wide.inRound l) 7 P (ownPostG w.heap.size (Kept Keep) I Ix (pre ++ [x]) W) { tmps := (((a.tmps.setIfInBounds p (e1 x)).setIfInBounds p' (e2 x)).setIfInBounds q (e1 x)).setIfInBounds q' (e2 x), defers := [] } W)
    (hdone : ∀ (D : Nat) (W : World), w.heap.size ≤ D → I L W → W.heap[D]? = some (.deferred (some [])) → Q .normal { a with defers := { target := .collected D, args := #[] } :: a.defers } W)
    (hstop : ∀ (D : Nat) (c : Code) (pre : List α) (W : World), w.heap.size ≤ D → pre <+: L → Ix c pre W → W.heap[D]? = some (.deferred (some [])) → c.wp P Q { a with defers := { target := .collected D, args := #[] } :: a.defers } W) :
    (Code.rangeFunc g #[p, p'] assign body).wp P Q a w :=
  wp_range hg eg hseq hkeep (fun _ => rfl) I Ix hI hIx h0 (fun x a' _ => a' = { tmps := (((a.tmps.setIfInBounds p (e1 x)).setIfInBounds p' (e2 x)).setIfInBounds q (e1 x)).setIfInBounds q' (e2 x), defers := [] }) (fun _ _ _ _ h _ => h)
    (fun l pre x W K hi hK => by
      have h := hassign l x W K (hK _ W (KeepsFrom.refl _ _) (fun _ _ => rfl) hi rfl)
      simpa using h)
    (fun l pre x a' W hl _ hi ha hlen => by subst ha; exact hbody l pre x W hl hi hlen) hdone hstop

/-! The function's return behind such loops. -/
def mark (D : Nat) : Deferred := { target := .collected D, args := #[] }
/-- The marks of loops that are over. -/
structure Marks (B : Nat) (w : World) (Ds : List Nat) : Prop where
  lay : ∀ D ∈ Ds, B ≤ D ∧ w.heap[D]? = some (.deferred (some []))
  nd : Ds.Nodup
theorem marks_nil (B : Nat) (w : World) : Marks B w [] := ⟨fun _ h => (by cases h), List.nodup_nil⟩
theorem Marks.lt {B : Nat} {w : World} {Ds : List Nat} (m : Marks B w Ds) {D : Nat} (h : D ∈ Ds) : D < w.heap.size := (Array.getElem?_eq_some_iff.1 (m.lay D h).2).1
theorem Marks.keep {B : Nat} {w w' : World} {Ds : List Nat} (m : Marks B w Ds) (h : ∀ D o, B ≤ D → w.heap[D]? = some o → o.isCells = false → w'.heap[D]? = w.heap[D]?) : Marks B w' Ds :=
  ⟨fun D hD => ⟨(m.lay D hD).1, (h D _ (m.lay D hD).1 (m.lay D hD).2 rfl).trans (m.lay D hD).2⟩, m.nd⟩
theorem Marks.below {B : Nat} {w w' : World} {Ds : List Nat} (m : Marks B w Ds) (h : Below w.heap.size w w') : Marks B w' Ds := m.keep fun D o _ ho _ => h.block D (Array.getElem?_eq_some_iff.1 ho).1
theorem Marks.only {B b : Nat} {w w' : World} {Ds : List Nat} (m : Marks B w Ds) (h : Only w w' b) (hc : ∀ o : Obj, w.heap[b]? = some o → o.isCells = true) : Marks B w' Ds :=
  m.keep fun D o _ ho hn => h.block D (Array.getElem?_eq_some_iff.1 ho).1 (fun e => by cases e; rw [hc o ho] at hn; cases hn)
theorem Marks.set {B : Nat} {w : World} {Ds : List Nat} (m : Marks B w Ds) (p : Addr) (v : Value) : Marks B (w.setCell p v) Ds :=
  ⟨fun D hD => ⟨(m.lay D hD).1, (KeepsOthers.setCell w p v).same D _ (m.lay D hD).2 rfl⟩, m.nd⟩
/-- A new one. -/
theorem Marks.push {B D : Nat} {w w' : World} {Ds : List Nat} (m : Marks B w Ds) (hB : B ≤ w.heap.size) (hD : w.heap.size ≤ D) (hk : w'.heap[D]? = some (.deferred (some []))) (h : Below w.heap.size w w') : Marks B w' (D :: Ds) :=
  ⟨fun D' hD' => by
    rcases List.mem_cons.1 hD' with rfl | h'
    · exact ⟨by omega, hk⟩
    · exact (m.below h).lay D' h', List.nodup_cons.2 ⟨fun h' => by have := m.lt h'; omega, m.nd⟩⟩
/-- A new one; what has turned is told by each old mark. -/
theorem Marks.push' {B D : Nat} {w w' : World} {Ds : List Nat} (m : Marks B w' Ds) (m0 : Marks B w Ds) (hB : B ≤ w.heap.size) (hD : w.heap.size ≤ D) (hk : w'.heap[D]? = some (.deferred (some []))) : Marks B w' (D :: Ds) :=
  ⟨fun D' hD' => by
    rcases List.mem_cons.1 hD' with rfl | h'
    · exact ⟨by omega, hk⟩
    · exact m.lay D' h', List.nodup_cons.2 ⟨fun h' => by have := m0.lt h'; omega, m.nd⟩⟩

/-- What the end of a function sees: the marks' blocks are shut, all else lies as it lay. -/
structure Shut (B : Nat) (w w' : World) : Prop where
  below : Below B w w'
  cells : ∀ (k : Nat) (c : Array Value) (t : TypeId) (f : Nat × Nat), w.heap[k]? = some (.cells c t f) → w'.heap[k]? = w.heap[k]?
theorem shut_cell {B : Nat} {w w' : World} (s : Shut B w w') {p : Addr} {v : Value} (h : w.cell? p = some v) : w'.cell? p = some v := by
  obtain ⟨o, ho, hc⟩ := cells_of_cell h
  cases o with
  | cells c t f => exact (World.cell?_of_block (s.cells p.block c t f ho)).trans h
  | _ => cases hc
theorem leaves_marks {P : Program} {fn : Func} {tmps : Array Value} {R : Ending → World → Prop} {B : Nat} : ∀ (Ds : List Nat) (w : World), B ≤ w.heap.size → Marks B w Ds →
    (∀ w', Shut B w w' → ∃ v, (results fn tmps).run P w' = .ok v w' ∧ R (.returned v) w') → LeavesInM Fence.wide 9 P fn tmps R (Ds.map mark) .returning w
  | [], w, hB, _, h => h w ⟨Below.refl _ _, fun _ _ _ _ _ => rfl⟩
  | D :: Ds, w, hB, m, h => by
    have hk := (m.lay D (List.mem_cons_self)).2
    have hD := (m.lay D (List.mem_cons_self)).1
    have hnd := List.nodup_cons.1 m.nd
    refine ⟨by simp, .inl ⟨D, _, rfl, run_takeDeferred hk, leaves_marks Ds _ (by simpa using hB) ⟨fun D' h' => ⟨(m.lay D' (List.mem_cons_of_mem _ h')).1, ?_⟩, hnd.2⟩ fun w' s => h w' ⟨?_, fun k c t f hc => ?_⟩⟩⟩
    · exact (World.putObj_heap_other (by rintro rfl; exact hnd.1 h')).trans (m.lay D' (List.mem_cons_of_mem _ h')).2
    · exact ((Below.refl B w).grown (grownBy_putObj' w D (.deferred none)) hB (fun k e => by cases e; exact hD)).trans s.below
    · have hne : k ≠ D := by rintro rfl; rw [hk] at hc; cases hc
      have e : (w.putObj D (.deferred none)).heap[k]? = w.heap[k]? := World.putObj_heap_other hne
      exact (s.cells k c t f (e.trans hc)).trans e
/-- A loop in whose rounds such loops stand: the marks are many. -/
theorem wp_loop_marks {P : Program} {c : Code} {Q : Exit → Act → World → Prop} (I : Array Value → List Nat → World → Prop) (μ : Array Value → World → Nat) {T0 : Array Value} {Ds0 : List Nat} {w : World} (h0 : I T0 Ds0 w)
    (round : ∀ T Ds w, I T Ds w → c.wp P (Exit.then (fun a' w' => ∃ Ds', a'.defers = Ds'.map mark ∧ I a'.tmps Ds' w' ∧ μ a'.tmps w' < μ T w) Q) { tmps := T, defers := Ds.map mark } w) :
    (Code.loop c).wp P Q { tmps := T0, defers := Ds0.map mark } w := by
  refine wp_loop (fun a w => ∃ Ds, a.defers = Ds.map mark ∧ I a.tmps Ds w) (fun a w => μ a.tmps w) ⟨Ds0, rfl, h0⟩ ?_
  rintro ⟨T, ds⟩ w ⟨Ds, rfl, hI⟩
  refine wp_mono (round T Ds w hI) ?_
  intro e a' w' h
  cases e with
  | normal =>
    obtain ⟨Ds', h1, h2, h3⟩ := h
    exact ⟨⟨Ds', h1, h2⟩, h3⟩
  | _ => exact h
/-- A function's contract from its body, ranges over functions among it. -/
theorem calls_of_wp_marks {P : Program} {f : FuncId} {fn : Func} {c : Code} {args : Array Value} {w : World} {R : Ending → World → Prop} (hf : P.funcs[f]? = some fn) (hb : fn.body = some c)
    (h : c.wp P (bodyPostM Fence.wide 9 P fn R) { tmps := args ++ Array.replicate (fn.ntmps - args.size) undef, defers := [] } w) : Calls P f args w R :=
  (callsIn_wide (n := 9)).1 (callsIn_of_wp_marks hf hb trivial (wpIn_wide.2 h) rfl)
theorem bodyPostM_nil {P : Program} {fn : Func} {R : Ending → World → Prop} {e : Exit} {a : Act} {w : World} (hd : a.defers = []) (h : bodyPost P fn R e a w) : bodyPostM Fence.wide 9 P fn R e a w := by
  obtain ⟨t, ds⟩ := a
  obtain rfl : ds = [] := hd
  cases e <;> simp_all [bodyPost, bodyPostM, LeavesInM, LeavesIn]
end Go.Proofs.YtcjlcbnjkkglbaaDoor
