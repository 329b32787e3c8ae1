/-
  A slice of ints of the call's own, that may begin anywhere in its block: read, cut, appended to. It speaks of no program.
-/
import Derived.Test.YthgajdaiklfjhaaMaps
import Derived.Deep.Upon
namespace Go.Proofs.Ythgajdaiklfjhaa
open Go.RowKit

structure RingAt (w : World) (base e : Nat) (a : Option Addr) (n c g o : Nat) (xs : List Int) : Prop where
  len : xs.length = n
  le : n ≤ c ∧ c ≤ 9223372036854775807
  at_ : ∀ ad, a = some ad → ad = ⟨g, o, none⟩
  non : a = none → c = 0
  blk : a ≠ none → ∃ cs, w.heap[g]? = some (.cells cs e (0, 0)) ∧ base ≤ g ∧ o + c ≤ cs.size
  cell : ∀ j x, xs[j]? = some x → w.cell? ⟨g, o + j, none⟩ = some (.int .i64 x)
theorem block_setCells (g : Nat) : ∀ (vs : List Value) (o : Nat) (w : World) (cs : Array Value) (e : TypeId), w.heap[g]? = some (.cells cs e (0, 0)) → ∃ cs', (w.setCells g o vs).heap[g]? = some (.cells cs' e (0, 0)) ∧ cs'.size = cs.size
  | [], _, _, cs, _, h => ⟨cs, h, rfl⟩
  | v :: r, o, w, cs, e, h => by
    obtain ⟨cs', h1, h2⟩ := block_setCells g r (o + 1) (w.setCell ⟨g, o, none⟩ v) _ e (heap_setCell_same w g o cs e v h)
    exact ⟨cs', h1, by rw [h2]; simp⟩
theorem only_setCells (g : Nat) : ∀ (vs : List Value) (o : Nat) (w : World), Only w (w.setCells g o vs) g
  | [], _, w => only_refl w g
  | v :: r, o, w => only_trans (only_set (only_refl w g) o v) (only_setCells g r (o + 1) _)
theorem cell_of_cells {w : World} {g : Nat} {cs : Array Value} {e : TypeId} {f : Nat × Nat} (h : w.heap[g]? = some (.cells cs e f)) (i : Nat) : w.cell? ⟨g, i, none⟩ = cs[i]? := by simp [World.cell?, h]
section
variable {w w' : World} {base e n c g o : Nat} {a : Option Addr} {xs : List Int}
theorem RingAt.nil (w : World) (base e g o : Nat) : RingAt w base e none 0 0 g o [] :=
  ⟨rfl, ⟨Nat.le_refl _, by omega⟩, fun _ h => (by cases h), fun _ => rfl, fun h => absurd rfl h, fun j x h => (by simp at h)⟩
theorem RingAt.pos (h : RingAt w base e a n c g o xs) (hc : 0 < c) : a = some ⟨g, o, none⟩ := by
  cases a with
  | none => have := h.non rfl; omega
  | some ad => rw [h.at_ ad rfl]
theorem RingAt.there (h : RingAt w base e a n c g o xs) {j : Nat} (hj : j < c) : (w.cell? ⟨g, o + j, none⟩).isSome = true := by
  obtain ⟨cs, h1, _, h3⟩ := h.blk (by rw [h.pos (by omega)]; simp)
  rw [cell_of_cells h1, Array.getElem?_eq_getElem (by omega)]; rfl
theorem RingAt.frozen (h : RingAt w base e a n c g o xs) (hc : 0 < c) (j : Nat) : w.frozen? ⟨g, j, none⟩ = false := by
  obtain ⟨cs, h1, _, h3⟩ := h.blk (by rw [h.pos hc]; simp)
  simp [World.frozen?, h1]
theorem RingAt.lt (h : RingAt w base e a n c g o xs) (ha : a ≠ none) : base ≤ g ∧ g < w.heap.size := by
  obtain ⟨cs, h1, h2, _⟩ := h.blk ha
  exact ⟨h2, (Array.getElem?_eq_some_iff.1 h1).1⟩
theorem RingAt.of_block (h : RingAt w base e a n c g o xs) (hb : a ≠ none → w'.heap[g]? = w.heap[g]?) : RingAt w' base e a n c g o xs := by
  refine ⟨h.len, h.le, h.at_, h.non, fun ha => ?_, fun j x hx => ?_⟩
  · obtain ⟨cs, h1, h2⟩ := h.blk ha
    exact ⟨cs, (hb ha).trans h1, h2⟩
  · have hj : j < n := by
      have := (List.getElem?_eq_some_iff.1 hx).1
      have := h.len
      omega
    have ha : a ≠ none := by rw [h.pos (by have := h.le; omega)]; simp
    exact (World.cell?_of_block (a := ⟨g, o + j, none⟩) (hb ha)).trans (h.cell j x hx)
theorem RingAt.below (h : RingAt w base e a n c g o xs) (k : Below w.heap.size w w') : RingAt w' base e a n c g o xs := h.of_block fun ha => k.block g (h.lt ha).2
theorem RingAt.only {d : Nat} (h : RingAt w base e a n c g o xs) (k : Only w w' d) (hne : a ≠ none → g ≠ d) : RingAt w' base e a n c g o xs := h.of_block fun ha => k.block g (h.lt ha).2 (fun e => hne ha (by cases e; rfl))
theorem RingAt.baseLe (h : RingAt w base e a n c g o xs) {b0 : Nat} (hb : b0 ≤ base) : RingAt w b0 e a n c g o xs :=
  ⟨h.len, h.le, h.at_, h.non, fun ha => by obtain ⟨cs, h1, h2, h3⟩ := h.blk ha; exact ⟨cs, h1, by omega, h3⟩, h.cell⟩
theorem RingAt.ne {d t m : Nat} {f : Nat → Value} (h : RingAt w base e a n c g o xs) (r : w.rowIs d t m f) (ht : e ≠ t) (ha : a ≠ none) : g ≠ d := by
  rintro rfl
  obtain ⟨cs, h1, _⟩ := h.blk ha
  obtain ⟨c', hc', _⟩ := r
  rw [h1] at hc'
  injection hc' with hc'
  injection hc' with _ h2
  exact ht h2
theorem RingAt.get (h : RingAt w base e a n c g o xs) {j : Nat} (hj : j < n) : ∃ x, xs[j]? = some x ∧ w.cell? ⟨g, o + j, none⟩ = some (.int .i64 x) := by
  have hl := h.len
  exact ⟨xs[j], List.getElem?_eq_getElem (by omega), h.cell j _ (List.getElem?_eq_getElem (by omega))⟩
theorem RingAt.olds (h : RingAt w base e a n c g o xs) (P : Program) (W : World) (hW : W.heap = w.heap) : (Builtin.firstCells 1 n (.slice a n c)).run P W = .ok (xs.map (Value.int .i64)).toArray W := by
  cases a with
  | none =>
    have hc := h.non rfl
    have hl := h.le
    obtain rfl : n = 0 := by omega
    obtain rfl : xs = [] := List.eq_nil_of_length_eq_zero h.len
    exact run_firstCells_none W 1 0 0 c
  | some ad =>
    refine run_firstCells_some W 1 n ad n c _ (by rw [List.length_map, h.len, Nat.mul_one]) (fun j u hu => ?_)
    rw [List.getElem?_map, Option.map_eq_some_iff] at hu
    obtain ⟨x, hx, rfl⟩ := hu
    rw [h.at_ ad rfl, addr_add]
    exact (World.cell?_of_block (a := ⟨g, o + j, none⟩) (by rw [hW])).trans (h.cell j x hx)
/-- s[1:]. -/
theorem RingAt.tail (h : RingAt w base e (some ⟨g, o, none⟩) (n + 1) c g o xs) {P : Program} {t : TypeId} {i : TypeInfo} (ht : P.underlying t = some (.slice e)) (he : P.elem t = e) (hi : P.info? e = some i) (hs : i.size = 1) :
    ∃ a' o', (∀ W, (Instr.slice t (.slice (some ⟨g, o, none⟩) (n + 1) c) (some (.int .i64 1)) none none).run P W = .ok (.slice a' n (c - 1)) W) ∧ RingAt w base e a' n (c - 1) g o' xs.tail := by
  have hl := h.le
  have hlen := h.len
  obtain ⟨cs, h1, h2, h3⟩ := h.blk (by simp)
  have hxs : ∀ j x, xs.tail[j]? = some x → xs[j + 1]? = some x := fun j x hx => by
    cases xs with
    | nil => simp at hx
    | cons y r => simpa using hx
  refine ⟨if c = 1 then some ⟨g, o, none⟩ else some ⟨g, o + 1, none⟩, if c = 1 then o else o + 1, fun W => ?_, ?_⟩
  · rw [run_slice_l W t (some ⟨g, o, none⟩) (n + 1) c (by rw [he]; exact ht) .i64 1 (by omega) (by omega), he]
    simp [sizeOf, typeInfo, hi, hs, Result.andThen, sliced, addr_add]
  · by_cases hc : c = 1
    · rw [if_pos hc, if_pos hc]
      refine ⟨by simp; omega, ⟨by omega, by omega⟩, fun ad e => (by cases e; rfl), fun e => (by cases e), fun _ => ⟨cs, h1, h2, by omega⟩, fun j x hx => ?_⟩
      have := (List.getElem?_eq_some_iff.1 hx).1
      simp at this
      omega
    · rw [if_neg hc, if_neg hc]
      refine ⟨by simp; omega, ⟨by omega, by omega⟩, fun ad e => (by cases e; rfl), fun e => (by cases e), fun _ => ⟨cs, h1, h2, by omega⟩, fun j x hx => ?_⟩
      rw [show o + 1 + j = o + (j + 1) by omega]
      exact h.cell (j + 1) x (hxs j x hx)
/-- append of one number. -/
theorem run_append_ring (h : RingAt w base e a n c g o xs) {P : Program} {t ty : TypeId} {i : TypeInfo} {z : Value} (ht : P.underlying t = some (.slice e)) (hi : P.info? e = some i) (hz : i.zero = some z) (hs : i.size = 1) (hb : i.bytes = 8) (hzc : z.cells.size = 1)
    {A : Nat} {x : Int} (hA : w.cell? ⟨A, 0, none⟩ = some (.int .i64 x)) (hn : n ≤ 1000000) (hbase : base ≤ w.heap.size) :
    ∃ a' c' g' o' w', (Builtin.append_ #[t, t] ty #[.slice a n c, .slice (some ⟨A, 0, none⟩) 1 1]).run P w = .ok (.slice a' (n + 1) c') w' ∧ RingAt w' base e a' (n + 1) c' g' o' (xs ++ [x]) ∧ a' ≠ none ∧
      ((a ≠ none ∧ g' = g ∧ Only w w' g) ∨ (g' = w.heap.size ∧ Below w.heap.size w w')) := by
  have hl := h.le
  have hlen := h.len
  have hsrc : Src P i.size t (.slice (some ⟨A, 0, none⟩) 1 1) 1 [.int .i64 x] w := by
    refine Src.ofSlice w ht ⟨A, 0, none⟩ 1 1 _ (by rw [hs]; rfl) (fun j u hu => ?_) (by simp [Value.oneCell'])
    cases j with
    | zero => simp at hu; subst hu; exact hA
    | succ j => simp at hu
  by_cases hroom : n + 1 ≤ c
  · have ha := h.pos (by omega)
    subst ha
    obtain ⟨cs, h1, h2, h3⟩ := h.blk (by simp)
    have hrun := run_append_room_src (P := P) w t t ty e i ht hi g o n c _ 1 _ hsrc hroom (fun j hj => by
      simp at hj; subst hj
      rw [hs, Nat.mul_one, Nat.add_zero]
      exact h.there (by omega)) (fun j hj => h.frozen (by omega) _)
    rw [hs, Nat.mul_one] at hrun
    obtain ⟨cs', h1', h2'⟩ := block_setCells g [.int .i64 x] (o + n) w cs e h1
    refine ⟨_, _, g, o, _, hrun, ⟨by simp [hlen], ⟨by omega, by omega⟩, h.at_, h.non, fun _ => ⟨cs', h1', h2, by omega⟩, fun j y hy => ?_⟩, by simp, .inl ⟨by simp, rfl, only_setCells g _ _ w⟩⟩
    by_cases hj : j < n
    · rw [World.cell?_setCells_out g _ _ _ _ (fun _ _ => .inl (by show o + j < o + n; omega))]
      rw [List.getElem?_append_left (by omega)] at hy
      exact h.cell j y hy
    · rw [List.getElem?_append_right (by omega)] at hy
      have hjn : j = n := by
        have := (List.getElem?_eq_some_iff.1 hy).1
        simp at this
        omega
      subst hjn
      rw [hlen, Nat.sub_self] at hy
      simp at hy
      subst hy
      have := World.cell?_setCells_in g [.int .i64 x] (o + j) w (fun k hk => by simp at hk; subst hk; rw [Nat.add_zero]; exact h.there (by omega)) 0 (by simp)
      simpa using this
  · have hg : c < n + 1 := by omega
    have hold := h.olds P w.drew rfl
    rw [← hs] at hold
    have hrun := run_append_grow_src (P := P) w t t ty e i z ht hi hz a n c _ hold _ 1 _ hsrc hg (by omega) (growslice_fits hg (by rw [hb]; omega))
    have hge := grownCap_ge w (n + 1) c e
    have hcm := grownCap_le_maxLen w (n + 1) c e (by unfold maxLen; omega)
    unfold maxLen at hcm
    generalize grownCap w (n + 1) c e = C at *
    have hsz : ((xs.map (Value.int .i64) ++ [Value.int .i64 x]).toArray ++ Builtin.zeroCells z.cells (C - (n + 1))).size = C := by
      rw [Array.size_append, List.size_toArray, size_zeroCells, hzc, List.length_append, List.length_map, hlen]
      simp
      omega
    have hgr : ∀ obj : Obj, (w.drew.alloc obj).heap[w.heap.size]? = some obj := fun obj => (MapKept.heap_alloc w.drew obj).1
    refine ⟨_, _, w.heap.size, 0, _, hrun, ⟨by simp [hlen], ⟨by omega, by omega⟩, fun ad e => (by cases e; rfl), fun e => (by cases e), fun _ => ⟨_, hgr _, hbase, by rw [hsz]; omega⟩, fun j y hy => ?_⟩, by simp, .inr ⟨rfl, ?_⟩⟩
    · rw [cell_of_cells (hgr _), Nat.zero_add, Array.getElem?_append_left (by
        have := (List.getElem?_eq_some_iff.1 hy).1
        simp at this
        simp; omega), List.getElem?_toArray]
      by_cases hj : j < xs.length
      · rw [List.getElem?_append_left hj] at hy
        rw [List.getElem?_append_left (by simpa using hj), List.getElem?_map, hy]; rfl
      · rw [List.getElem?_append_right (by omega)] at hy
        rw [List.getElem?_append_right (by simp; omega), List.length_map]
        have hj0 : j - xs.length = 0 := by
          have := (List.getElem?_eq_some_iff.1 hy).1
          simp at this
          omega
        rw [hj0] at hy ⊢
        simp at hy
        subst hy; rfl
    · exact below_alloc (Below.refl w.heap.size w).drew _
end
end Go.Proofs.Ythgajdaiklfjhaa
