/-
  Ranges over a function whose iterator reads memory that it made itself: what a round must keep is told by 'Safe'. It speaks of no program.
-/
import Derived.Test.YtcjlcbnjkkglbaaDoorRF
namespace Go.Proofs.YtcjlcbnjkkglbaaDoor
open Go.RowKit

/-- What a round must keep: each block that is safe; and it is safe still. -/
def KpS (Safe : World → Nat → Prop) (W W' : World) : Prop := ∀ k, Safe W k → W'.heap[k]? = W.heap[k]? ∧ Safe W' k
theorem kpS_refl (Safe : World → Nat → Prop) (W : World) : KpS Safe W W := fun _ h => ⟨rfl, h⟩
theorem KpS.trans {Safe : World → Nat → Prop} {A B C : World} (h : KpS Safe A B) (k : KpS Safe B C) : KpS Safe A C := fun i hi => by
  obtain ⟨h1, h2⟩ := h i hi
  obtain ⟨h3, h4⟩ := k i h2
  exact ⟨h3.trans h1, h4⟩
/-- What is safe: blocks of cells, but those of Mod, and but the one at which the slice in box B lies. -/
def SafeB (B : Nat) (Mod : Nat → Prop) (W : World) (k : Nat) : Prop :=
  (∃ c t f, W.heap[k]? = some (.cells c t f)) ∧ ¬ Mod k ∧ ∀ d o n c, W.cell? ⟨B, 0, none⟩ = some (.slice (some ⟨d, o, none⟩) n c) → d ≠ k
/-- The loop's boxes lie ahead of it. -/
structure Ahead (w : World) (B : Nat) (Mod : Nat → Prop) : Prop where
  mod : ∀ k, Mod k → k < w.heap.size
  box : B < w.heap.size
  row : ∀ d o n c, w.cell? ⟨B, 0, none⟩ = some (.slice (some ⟨d, o, none⟩) n c) → d < w.heap.size
theorem safe_fresh {w : World} {B : Nat} {Mod : Nat → Prop} (h : Ahead w B Mod) {W : World} (hb : Below w.heap.size w W) {k : Nat} (hk : w.heap.size ≤ k) (hc : ∃ c t f, W.heap[k]? = some (.cells c t f)) : SafeB B Mod W k :=
  ⟨hc, fun hm => by have := h.mod k hm; omega, fun d o n c hd => by
    rw [hb.cell (p := ⟨B, 0, none⟩) h.box] at hd
    have := h.row d o n c hd
    omega⟩
theorem safe_put {w : World} {B : Nat} {Mod : Nat → Prop} (h : Ahead w B Mod) {W : World} {l : Nat} {o o' : Obj} (hl : w.heap.size ≤ l) (ho : W.heap[l]? = some o) (hc : o.isCells = false) : KpS (SafeB B Mod) W (W.putObj l o') := fun k hk => by
  obtain ⟨⟨c, t, f, h1⟩, h2, h3⟩ := hk
  have hne : k ≠ l := by rintro rfl; rw [ho] at h1; cases h1; cases hc
  have e : (W.putObj l o').heap[k]? = W.heap[k]? := World.putObj_heap_other hne
  have hB : B ≠ l := by have := h.box; omega
  refine ⟨e, ⟨c, t, f, e.trans h1⟩, h2, fun d o2 n c2 hd => h3 d o2 n c2 ?_⟩
  rw [World.cell?_of_block (a := ⟨B, 0, none⟩) (w := W) (w' := W.putObj l o') (World.putObj_heap_other hB)] at hd
  exact hd
/-- A round that has turned blocks of Mod alone, not the box B. -/
theorem kpS_only {B d : Nat} {Mod : Nat → Prop} {W W' : World} (k : Only W W' d) (hd : Mod d) (hB : B ≠ d) (hBl : B < W.heap.size) : KpS (SafeB B Mod) W W' := fun i hi => by
  obtain ⟨⟨c, t, f, h1⟩, h2, h3⟩ := hi
  have hne : i ≠ d := by rintro rfl; exact h2 hd
  have e := k.block i (Array.getElem?_eq_some_iff.1 h1).1 (fun e => hne (by cases e; rfl))
  refine ⟨e, ⟨c, t, f, e.trans h1⟩, h2, fun d' o n c2 hd' => h3 d' o n c2 ?_⟩
  rw [World.cell?_of_block (a := ⟨B, 0, none⟩) (w := W) (w' := W') (k.block B hBl (fun e => hB (by cases e; rfl)))] at hd'
  exact hd'
theorem kpS_below {B : Nat} {Mod : Nat → Prop} {W W' : World} (k : Below W.heap.size W W') (hBl : B < W.heap.size) : KpS (SafeB B Mod) W W' := fun i hi => by
  obtain ⟨⟨c, t, f, h1⟩, h2, h3⟩ := hi
  have e := k.block i (Array.getElem?_eq_some_iff.1 h1).1
  refine ⟨e, ⟨c, t, f, e.trans h1⟩, h2, fun d' o n c2 hd' => h3 d' o n c2 ?_⟩
  rw [World.cell?_of_block (a := ⟨B, 0, none⟩) (w := W) (w' := W') (k.block B hBl)] at hd'
  exact hd'
/-- A store into a box of Mod, of what is no slice, the box B maybe. -/
theorem kpS_set {B d : Nat} {Mod : Nat → Prop} {W : World} {v : Value} (hd : Mod d) (hBl : B < W.heap.size) (hv : B = d → ∀ e o n c, v ≠ .slice (some ⟨e, o, none⟩) n c) (hsome : (W.cell? ⟨d, 0, none⟩).isSome = true) : KpS (SafeB B Mod) W (W.setCell ⟨d, 0, none⟩ v) := fun i hi => by
  obtain ⟨⟨c, t, f, h1⟩, h2, h3⟩ := hi
  have hne : i ≠ d := by rintro rfl; exact h2 hd
  have e : (W.setCell ⟨d, 0, none⟩ v).heap[i]? = W.heap[i]? := Below.heap_setCell _ _ _ _ hne
  refine ⟨e, ⟨c, t, f, e.trans h1⟩, h2, fun d' o n c2 hd' => ?_⟩
  by_cases hB : B = d
  · subst hB
    rw [World.cell?_setCell_same' _ _ _ hsome] at hd'
    cases hd'
    exact absurd rfl (hv rfl d' o n c2)
  · rw [World.cell?_of_block (a := ⟨B, 0, none⟩) (w := W) (Below.heap_setCell _ _ _ _ hB)] at hd'
    exact h3 d' o n c2 hd'

/-- What an iterator tells: L, one by one. -/
abbrev TellsS {α : Type} (P : Program) (gf : Nat) (lb : Array Value) (encs : α → Array Value) (Safe : World → Nat → Prop) (L : List α) (w : World) : Prop :=
  SeqStopsK Fence.wide 8 P gf lb encs (KpS Safe) (fun xs => xs = L) (fun pre => pre <+: L) L.length w
theorem wp_rangeS {α : Type} {P : Program} {g : Operand} {ps : Array Tmp} {assign body : Code} {Q : Exit → Act → World → Prop} {a : Act} {w : World}
    {gf : Nat} {lb : Array Value} (hg : a.eval g = .func (.func gf) #[] lb) (eg : ∀ args w, (callFunc gf args).run P w = .ok (.enter gf args) w)
    {encs : α → Array Value} {B : Nat} {Mod : Nat → Prop} {L : List α} (hseq : TellsS P gf lb encs (SafeB B Mod) L w) (hah : Ahead w B Mod) (hps : ∀ x, (encs x).size = ps.size)
    (I : List α → World → Prop) (Ix : Code → List α → World → Prop) (hI : ∀ s W W', I s W → Step w.heap.size W W' → I s W') (hIx : ∀ c s W W', Ix c s W → Step w.heap.size W W' → Ix c s W') (h0 : I [] w)
    (Ax : α → Act → World → Prop) (hAx : ∀ x a' W W', Ax x a' W → Step w.heap.size W W' → Ax x a' W')
    (hassign : ∀ (l : Nat) (pre : List α) (x : α) (W : World) (K : Act → World → Prop), I pre W → (∀ a' W', KeepsFrom w.heap.size W W' → KpS (SafeB B Mod) W W' → I pre W' → Ax x a' W' → K a' W') →
      assign.wpIn (Fence.wide.inRound l) 7 P (Exit.then K (fun _ _ _ => False)) { tmps := (ps.zip (encs x)).foldl (fun t (p, v) => t.setIfInBounds p v) a.tmps, defers := [] } W)
    (hbody : ∀ (l : Nat) (pre : List α) (x : α) (a' : Act) (W : World), w.heap.size ≤ l → (∃ r, W.heap[l]? = some (.loop r)) → I pre W → Ax x a' W → pre.length < L.length →
      body.wpIn (Fence.wide.inRound l) 7 P (ownPostG w.heap.size (KpS (SafeB B Mod)) I Ix (pre ++ [x]) W) a' W)
    (hdone : ∀ (D : Nat) (W : World), w.heap.size ≤ D → I L W → W.heap[D]? = some (.deferred (some [])) → Q .normal { a with defers := { target := .collected D, args := #[] } :: a.defers } W)
    (hstop : ∀ (D : Nat) (c : Code) (pre : List α) (W : World), w.heap.size ≤ D → pre <+: L → Ix c pre W → W.heap[D]? = some (.deferred (some [])) → c.wp P Q { a with defers := { target := .collected D, args := #[] } :: a.defers } W) :
    (Code.rangeFunc g ps assign body).wp P Q a w :=
  (wpIn_wide (n := 9)).1 (wpIn_rangeFunc_ownH rfl (by omega) hg trivial eg hseq (fun h k => h.trans k) (fun W l o o' hl hW hc _ => safe_put hah hl hW hc) (Below.refl _ _) hps I Ix (ownFrom_of hI) (fun c => ownFrom_of (hIx c)) h0 Ax (fun x a' => ownFrom_of (fun _ => hAx x a')) hassign hbody
    (fun D xs W hD hxs hi hk => by subst hxs; exact hdone D W hD hi hk) (fun D c pre W hD hp hi hk => wpIn_wide.2 (hstop D c pre W hD hp hi hk)))
/-- .. of an iterator that tells nothing. -/
theorem wp_rangeS_nil {α : Type} {P : Program} {g : Operand} {ps : Array Tmp} {assign body : Code} {Q : Exit → Act → World → Prop} {a : Act} {w : World}
    {gf : Nat} {lb : Array Value} (hg : a.eval g = .func (.func gf) #[] lb) (eg : ∀ args w, (callFunc gf args).run P w = .ok (.enter gf args) w)
    {encs : α → Array Value} {B : Nat} {Mod : Nat → Prop} (hseq : TellsS P gf lb encs (SafeB B Mod) [] w) (hah : Ahead w B Mod) (hps : ∀ x, (encs x).size = ps.size)
    (hassign : ∀ (l : Nat) (x : α) (W : World) (K : Act → World → Prop), (∀ a', K a' W) →
      assign.wpIn (Fence.wide.inRound l) 7 P (Exit.then K (fun _ _ _ => False)) { tmps := (ps.zip (encs x)).foldl (fun t (p, v) => t.setIfInBounds p v) a.tmps, defers := [] } W)
    (hdone : ∀ (D : Nat) (W : World), w.heap.size ≤ D → Below w.heap.size w W → W.heap[D]? = some (.deferred (some [])) → Q .normal { a with defers := { target := .collected D, args := #[] } :: a.defers } W) :
    (Code.rangeFunc g ps assign body).wp P Q a w :=
  wp_rangeS hg eg hseq hah hps (fun _ W => Below w.heap.size w W) (fun _ _ _ => False) (fun _ _ _ h k => h.trans (k.below (Nat.le_refl _) h.size)) (fun _ _ _ _ h _ => h) (Below.refl _ _)
    (fun _ _ _ => True) (fun _ _ _ _ h _ => h) (fun l pre x W K hI hK => hassign l x W K (fun a' => hK a' W (KeepsFrom.refl _ _) (kpS_refl _ _) hI trivial))
    (fun _ _ _ _ _ _ _ _ _ h => absurd h (Nat.not_lt_zero _)) (fun D W hD hI hk => hdone D W hD hI hk) (fun _ _ _ _ _ _ h _ => h.elim)
/-- .. whose one loop variable lies in slot q. -/
theorem wp_rangeS1 {α : Type} {P : Program} {g : Operand} {assign body : Code} {Q : Exit → Act → World → Prop} {a : Act} {w : World} (p q : Nat)
    {gf : Nat} {lb : Array Value} (hg : a.eval g = .func (.func gf) #[] lb) (eg : ∀ args w, (callFunc gf args).run P w = .ok (.enter gf args) w)
    {enc : α → Value} {B : Nat} {Mod : Nat → Prop} {L : List α} (hseq : TellsS P gf lb (fun x => #[enc x]) (SafeB B Mod) L w) (hah : Ahead w B Mod)
    (I : List α → World → Prop) (Ix : Code → List α → World → Prop) (hI : ∀ s W W', I s W → Step w.heap.size W W' → I s W') (hIx : ∀ c s W W', Ix c s W → Step w.heap.size W W' → Ix c s W') (h0 : I [] w)
    (hassign : ∀ (l : Nat) (x : α) (W : World) (K : Act → World → Prop), K { tmps := (a.tmps.setIfInBounds p (enc x)).setIfInBounds q (enc x), defers := [] } W →
      assign.wpIn (Fence.wide.inRound l) 7 P (Exit.then K (fun _ _ _ => False)) { tmps := a.tmps.setIfInBounds p (enc x), defers := [] } W)
    (hbody : ∀ (l : Nat) (pre : List α) (x : α) (W : World), w.heap.size ≤ l → I pre W → pre.length < L.length →
      body.wpIn (Fence.wide.inRound l) 7 P (ownPostG w.heap.size (KpS (SafeB B Mod)) I Ix (pre ++ [x]) W) { tmps := (a.tmps.setIfInBounds p (enc x)).setIfInBounds q (enc x), defers := [] } W)
    (hdone : ∀ (D : Nat) (W : World), w.heap.size ≤ D → I L W → W.heap[D]? = some (.deferred (some [])) → Q .normal { a with defers := { target := .collected D, args := #[] } :: a.defers } W)
    (hstop : ∀ (D : Nat) (c : Code) (pre : List α) (W : World), w.heap.size ≤ D → pre <+: L → Ix c pre W → W.heap[D]? = some (.deferred (some [])) → c.wp P Q { a with defers := { target := .collected D, args := #[] } :: a.defers } W) :
    (Code.rangeFunc g #[p] assign body).wp P Q a w :=
  wp_rangeS hg eg hseq hah (fun _ => rfl) I Ix hI hIx h0 (fun x a' _ => a' = { tmps := (a.tmps.setIfInBounds p (enc x)).setIfInBounds q (enc x), defers := [] }) (fun _ _ _ _ h _ => h)
    (fun l pre x W K hi hK => by
      have h := hassign l x W K (hK _ W (KeepsFrom.refl _ _) (kpS_refl _ _) hi rfl)
      simpa using h)
    (fun l pre x a' W hl _ hi ha hlen => by subst ha; exact hbody l pre x W hl hi hlen) hdone hstop
end Go.Proofs.YtcjlcbnjkkglbaaDoor
