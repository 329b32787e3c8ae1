/-
  What the texts of all seats share: which blocks turned; slices that can be read; append of whatever slice onto a row of the call's own. It speaks of no program.
-/
import Derived.Test.YtjobdncikpnojaaKnown
import Derived.WalkKit
import Derived.WalkSpells
import Derived.WalkLawsBesides
import Derived.Lib.Hide
import Derived.Maps.AppendAt
import Derived.Deep.OwnRows
import Derived.BigQuiet
import Derived.Handy
namespace Go.Proofs.Ytjobdncikpnojaa
open Go.RowKit

theorem ret_int {k : IntKind} {a b : Int} (h : a = b) : Ending.returned (.int k a) = .returned (.int k b) := by rw [h]
theorem addr_add (b o k : Nat) : (⟨b, o, none⟩ : Addr).add k = ⟨b, o + k, none⟩ := by unfold Addr.add; split <;> simp_all

/-! Which blocks turned. -/
theorem only_trans {a b c : World} {g : Nat} (h : Only a b g) (k : Only b c g) : Only a c g :=
  ⟨k.os.trans h.os, k.tape.trans h.tape, k.output.trans h.output, Nat.le_trans h.size k.size, fun i hi hne => (k.block i (Nat.lt_of_lt_of_le hi h.size) hne).trans (h.block i hi hne)⟩
theorem only_drewN {a w : World} {b : Nat} (h : Only a w b) (n : Nat) : Only a (w.drewN n) b := ⟨h.os, h.tape, h.output, h.size, h.block⟩
theorem only_drew {a w : World} {b : Nat} (h : Only a w b) : Only a w.drew b := ⟨h.os, h.tape, h.output, h.size, h.block⟩
theorem only_below {a w w' : World} {b : Nat} (h : Only a w b) (k : Below w.heap.size w w') : Only a w' b :=
  ⟨k.os.trans h.os, k.tape.trans h.tape, k.output.trans h.output, Nat.le_trans h.size k.size, fun i hi hne => (k.block i (Nat.lt_of_lt_of_le hi h.size)).trans (h.block i hi hne)⟩
theorem only_of_below {a w : World} (h : Below a.heap.size a w) (b : Nat) : Only a w b := ⟨h.os, h.tape, h.output, h.size, fun i hi _ => h.block i hi⟩
theorem below_drewN {B : Nat} {a w : World} (h : Below B a w) (n : Nat) : Below B a (w.drewN n) := ⟨h.os, h.tape, h.output, h.size, h.block⟩
theorem below_then {a w w' : World} (h : Below a.heap.size a w) (hb : Below w.heap.size w w') : Below a.heap.size a w' := h.trans (hb.mono h.size)
theorem below_alloc {a w : World} (h : Below a.heap.size a w) (x : Obj) : Below a.heap.size a (w.alloc x) := h.alloc h.size x
theorem below_new (w : World) (x : Obj) : Below w.heap.size w (w.alloc x) := (Below.refl _ _).alloc (Nat.le_refl _) x

/-! A row of cells: rowIs. -/
theorem rowIs_below {w w' : World} {b t n : Nat} {f : Nat → Value} (r : w.rowIs b t n f) (h : Below w.heap.size w w') : w'.rowIs b t n f := r.of_block (h.block b r.lt)
theorem rowIs_only {w w' : World} {b t n g : Nat} {f : Nat → Value} (r : w.rowIs b t n f) (h : Only w w' g) (hne : b ≠ g) : w'.rowIs b t n f := r.of_block (h.block b r.lt (fun e => hne (by cases e; rfl)))
theorem rowIs_drewN {w : World} {b t n : Nat} {f : Nat → Value} (r : w.rowIs b t n f) (k : Nat) : (w.drewN k).rowIs b t n f := r
/-- Rows of different elements are different blocks. -/
theorem rowIs_ne {w : World} {b b' t t' n n' : Nat} {f f' : Nat → Value} (r : w.rowIs b t n f) (r' : w.rowIs b' t' n' f') (h : t ≠ t') : b ≠ b' := by
  rintro rfl
  obtain ⟨c, hc, _⟩ := r
  obtain ⟨c', hc', _⟩ := r'
  rw [hc] at hc'
  injection hc' with hc'
  injection hc' with _ ht
  exact h ht

/-! Slices that can be read. -/
/-- The slice at a of m elements, size cells each, reads as xs. -/
structure Rd (w : World) (size : Nat) (a : Option Addr) (m : Nat) (xs : List Value) : Prop where
  len : xs.length = m * size
  at_ : 0 < m → ∃ b o, a = some ⟨b, o, none⟩ ∧ b < w.heap.size ∧ ∀ j u, xs[j]? = some u → w.cell? ⟨b, o + j, none⟩ = some u
theorem Rd.nil (w : World) (size : Nat) (a : Option Addr) : Rd w size a 0 [] := ⟨by simp, fun h => absurd h (Nat.lt_irrefl _)⟩
theorem Rd.drew {w : World} {size m : Nat} {a : Option Addr} {xs : List Value} (h : Rd w size a m xs) : Rd w.drew size a m xs := ⟨h.len, h.at_⟩
theorem Rd.below {w w' : World} {size m : Nat} {a : Option Addr} {xs : List Value} (h : Rd w size a m xs) (k : Below w.heap.size w w') : Rd w' size a m xs :=
  ⟨h.len, fun hm => by
    obtain ⟨b, o, e, hb, hc⟩ := h.at_ hm
    exact ⟨b, o, e, Nat.lt_of_lt_of_le hb k.size, fun j u hu => (k.cell (p := ⟨b, o + j, none⟩) hb).trans (hc j u hu)⟩⟩
/-- The first k of them. -/
theorem Rd.take {w : World} {size m : Nat} {a : Option Addr} {xs : List Value} (h : Rd w size a m xs) {k : Nat} (hk : k ≤ m) : Rd w size a k (xs.take (k * size)) :=
  ⟨by rw [List.length_take, h.len]; exact Nat.min_eq_left (Nat.mul_le_mul_right _ hk), fun h0 => by
    obtain ⟨b, o, e, hb, hc⟩ := h.at_ (by omega)
    refine ⟨b, o, e, hb, fun j u hu => hc j u ?_⟩
    rw [List.getElem?_take] at hu
    split at hu
    · exact hu
    · cases hu⟩
/-- From the k-th on. -/
theorem Rd.drop {w : World} {size m b o : Nat} {xs : List Value} (h : Rd w size (some ⟨b, o, none⟩) m xs) (k : Nat) : Rd w size (some ⟨b, o + k * size, none⟩) (m - k) (xs.drop (k * size)) :=
  ⟨by rw [List.length_drop, h.len, Nat.sub_mul], fun h0 => by
    obtain ⟨b', o', e, hb, hc⟩ := h.at_ (by omega)
    cases e
    refine ⟨b, o + k * size, rfl, hb, fun j u hu => ?_⟩
    rw [Nat.add_assoc]
    exact hc _ u (by rw [← hu, List.getElem?_drop])⟩

/-! A slice of the call's own, its block told: g. -/
structure OwnAt (w : World) (base e size : Nat) (a : Option Addr) (n c g : Nat) (xs : List Value) : Prop where
  own : w.ownsRow base e size (.slice a n c) n xs
  at_ : 0 < n → a = some ⟨g, 0, none⟩
  blk : ∀ b, a = some b → b = ⟨g, 0, none⟩ ∧ base ≤ g ∧ g < w.heap.size
theorem own_at {w : World} {base e size n : Nat} {v : Value} {xs : List Value} (h : w.ownsRow base e size v n xs) : ∃ a c g, v = .slice a n c ∧ OwnAt w base e size a n c g xs := by
  have hlt := h.lt
  have h' := h
  rcases h.2 with ⟨rfl, hn⟩ | ⟨g, cap, cur, rfl, hb, hg, hc, hm, _⟩
  · refine ⟨none, 0, 0, by rw [hn], ⟨by rw [hn] at h' ⊢; exact h', fun h0 => by omega, fun b hb => by cases hb⟩⟩
  · exact ⟨_, _, g, rfl, ⟨h', fun _ => rfl, fun b hb' => by cases hb'; exact ⟨rfl, hlt g rfl⟩⟩⟩
section
variable {w w' : World} {base e size n c g : Nat} {a : Option Addr} {xs : List Value}
theorem OwnAt.le (h : OwnAt w base e size a n c g xs) : n ≤ c ∧ c ≤ maxLen := by
  rcases h.own.2 with ⟨h1, h2⟩ | ⟨g', cap, cur, h1, hb, hg, hc, hm, _⟩
  · cases h1; omega
  · cases h1; exact ⟨hc, hm⟩
theorem OwnAt.cell (h : OwnAt w base e size a n c g xs) {j : Nat} {u : Value} (hu : xs[j]? = some u) : w.cell? ⟨g, j, none⟩ = some u := by
  have h0 : 0 < n := by
    rcases Nat.eq_zero_or_pos n with h0 | h0
    · have := h.own.1
      rw [h0, Nat.zero_mul] at this
      rw [List.eq_nil_of_length_eq_zero this] at hu
      cases hu
    · exact h0
  obtain rfl := h.at_ h0
  have := h.own.cells (g := g) rfl j u hu
  rwa [addr_add, Nat.zero_add] at this
theorem OwnAt.frozen (h : OwnAt w base e size a n c g xs) (h0 : 0 < n) (j : Nat) : w.frozen? ⟨g, j, none⟩ = false := by
  obtain rfl := h.at_ h0
  exact h.own.frozenAt j
theorem OwnAt.rd (h : OwnAt w base e size a n c g xs) : Rd w size a n xs :=
  ⟨h.own.1, fun h0 => ⟨g, 0, h.at_ h0, (h.blk _ (h.at_ h0)).2.2, fun j u hu => by rw [Nat.zero_add]; exact h.cell hu⟩⟩
theorem own_of_block {v : Value} (h : w.ownsRow base e size v n xs) (hs : w.heap.size ≤ w'.heap.size) (hb : ∀ b, v.ownBlock = some b → w'.heap[b]? = w.heap[b]?) : w'.ownsRow base e size v n xs := by
  refine ⟨h.1, ?_⟩
  rcases h.2 with h1 | ⟨g', cap, cur, h1, hb', hg, r⟩
  · exact .inl h1
  · subst h1; exact .inr ⟨g', cap, cur, rfl, hb', (hb g' rfl).trans hg, r⟩
theorem OwnAt.of_block (h : OwnAt w base e size a n c g xs) (hs : w.heap.size ≤ w'.heap.size) (hb : a ≠ none → w'.heap[g]? = w.heap[g]?) : OwnAt w' base e size a n c g xs := by
  refine ⟨own_of_block h.own hs fun b hb' => ?_, h.at_, fun b hb' => ⟨(h.blk b hb').1, (h.blk b hb').2.1, Nat.lt_of_lt_of_le (h.blk b hb').2.2 hs⟩⟩
  cases a with
  | none => cases hb'
  | some ad =>
    obtain ⟨rfl, _⟩ := h.blk ad rfl
    cases hb'
    exact hb (by simp)
theorem OwnAt.below (h : OwnAt w base e size a n c g xs) (k : Below w.heap.size w w') : OwnAt w' base e size a n c g xs :=
  h.of_block k.size fun ha => by
    cases a with
    | none => exact absurd rfl ha
    | some ad => exact k.block g (h.blk ad rfl).2.2
theorem OwnAt.only {b : Nat} (h : OwnAt w base e size a n c g xs) (k : Only w w' b) (hne : a ≠ none → g ≠ b) : OwnAt w' base e size a n c g xs :=
  h.of_block k.size fun ha => by
    cases a with
    | none => exact absurd rfl ha
    | some ad => exact k.block g (h.blk ad rfl).2.2 (fun e => hne ha (by cases e; rfl))
/-- It does not lie in a block of other elements. -/
theorem OwnAt.ne {b t m : Nat} {f : Nat → Value} (h : OwnAt w base e size a n c g xs) (r : w.rowIs b t m f) (ht : e ≠ t) : a ≠ none → g ≠ b := by
  rintro ha rfl
  rcases h.own.2 with ⟨h1, h2⟩ | ⟨g', cap, cur, h1, hb, hg, _⟩
  · cases h1; exact ha rfl
  · cases h1
    obtain ⟨rfl, _⟩ := h.blk _ rfl |>.imp (fun e => by cases e; rfl) id |> fun h => (⟨h.1, h.2⟩ : g' = g ∧ _)
    obtain ⟨c', hc', _⟩ := r
    rw [hg] at hc'
    injection hc' with hc'
    injection hc' with _ ht'
    exact ht ht'
/-- Nor in a row of other elements. -/
theorem OwnAt.ne_own {base' e' size' n' c' g' : Nat} {a' : Option Addr} {xs' : List Value} (h : OwnAt w base e size a n c g xs) (h' : OwnAt w base' e' size' a' n' c' g' xs') (ht : e ≠ e') : a ≠ none → a' ≠ none → g ≠ g' := by
  rintro ha ha' rfl
  rcases h.own.2 with ⟨h1, h2⟩ | ⟨x, cap, cur, h1, hb, hg, _⟩
  · cases h1; exact ha rfl
  · rcases h'.own.2 with ⟨h1', h2'⟩ | ⟨x', cap', cur', h1', hb', hg', _⟩
    · cases h1'; exact ha' rfl
    · cases h1
      cases h1'
      have e1 := (h.blk _ rfl).1
      have e2 := (h'.blk _ rfl).1
      cases e1
      cases e2
      rw [hg] at hg'
      injection hg' with hg'
      injection hg' with _ ht'
      exact ht ht'
/-- A store into it. -/
theorem OwnAt.set (h : OwnAt w base e size a n c g xs) (h0 : 0 < n) (j : Nat) (u : Value) (hj : j < n * size) : OwnAt (w.setCell ⟨g, j, none⟩ u) base e size a n c g (xs.set j u) := by
  obtain rfl := h.at_ h0
  exact ⟨(h.own.stored j u).1, h.at_, fun b hb => by
    obtain ⟨h1, h2, h3⟩ := h.blk b hb
    exact ⟨h1, h2, by simpa [World.setCell] using h3⟩⟩
/-- What an append to it leaves alone. -/
theorem OwnAt.grown_other (h : OwnAt w base e size a n c g xs) (k : w.grownBy w' (Value.slice a n c).ownBlock) {b : Nat} (hb : b < w.heap.size) (hne : a ≠ none → g ≠ b) : w'.heap[b]? = w.heap[b]? :=
  k.block b hb fun e' => by
    cases a with
    | none => cases e'
    | some ad =>
      obtain ⟨rfl, _⟩ := h.blk ad rfl
      cases e'
      exact hne (by simp) rfl
theorem OwnAt.grown_below (h : OwnAt w base e size a n c g xs) (k : w.grownBy w' (Value.slice a n c).ownBlock) {w0 : World} {B : Nat} (hw : Below B w0 w) (hB : B ≤ w.heap.size) (hb : B ≤ base) : Below B w0 w' :=
  hw.grown k hB fun b' e' => by
    cases a with
    | none => cases e'
    | some ad =>
      obtain ⟨rfl, h1, _⟩ := h.blk ad rfl
      cases e'
      exact Nat.le_trans hb h1
/-- An empty row that the call has just made. -/
theorem own_empty (w : World) (e size : Nat) {base : Nat} (hb : base ≤ w.heap.size) : (w.alloc (.cells #[] e)).ownsRow base e size (.slice (some ⟨w.heap.size, 0, none⟩) 0 0) 0 [] :=
  World.ownsRow_made w #[] 0 hb (by unfold maxLen; omega) (by simp)
/-- A row that the call has just laid. -/
theorem rd_new (w : World) (cs : Array Value) (e size m : Nat) (hm : cs.size = m * size) : Rd (w.alloc (.cells cs e)) size (some ⟨w.heap.size, 0, none⟩) m cs.toList :=
  ⟨by simpa using hm, fun _ => ⟨w.heap.size, 0, rfl, by simp, fun j u hu => by rw [Nat.zero_add, World.cell?_alloc_new]; simpa using hu⟩⟩
end

/-! s[:k], s[k:]. -/
section
variable {P : Program}
theorem run_slice_to {t e : TypeId} {i : TypeInfo} (ht : P.underlying t = some (.slice e)) (he : P.elem t = e) (hi : P.info? e = some i) (b o m c k : Nat) (hk : k ≤ c) (W : World) :
    (Instr.slice t (.slice (some ⟨b, o, none⟩) m c) none (some (.int .i64 (k : Int))) none).run P W = .ok (.slice (some ⟨b, o, none⟩) k c) W := by
  rw [run_slice_h W t (some ⟨b, o, none⟩) m c (by rw [he]; exact ht) .i64 k (by omega) (by omega), he]
  simp [sizeOf, typeInfo, hi, Result.andThen, sliced, addr_add]
theorem run_slice_from {t e : TypeId} {i : TypeInfo} (ht : P.underlying t = some (.slice e)) (he : P.elem t = e) (hi : P.info? e = some i) (b o m c k : Nat) (hk : k ≤ m) (hm : m ≤ c) :
    ∃ A : Option Addr, (∀ W, (Instr.slice t (.slice (some ⟨b, o, none⟩) m c) (some (.int .i64 (k : Int))) none none).run P W = .ok (.slice A (m - k) (c - k)) W) ∧
      ∀ (w : World) (xs : List Value), Rd w i.size (some ⟨b, o, none⟩) m xs → Rd w i.size A (m - k) (xs.drop (k * i.size)) := by
  refine ⟨if c = k then some ⟨b, o, none⟩ else some ⟨b, o + k * i.size, none⟩, fun W => ?_, fun w xs h => ?_⟩
  · rw [run_slice_l W t (some ⟨b, o, none⟩) m c (by rw [he]; exact ht) .i64 k (by omega) (by omega), he]
    simp [sizeOf, typeInfo, hi, Result.andThen, sliced, addr_add]
  · split
    · rename_i hc
      have : m - k = 0 := by omega
      rw [this]
      have hx : xs.drop (k * i.size) = [] := List.drop_eq_nil_iff.2 (by rw [h.len, show m = k by omega]; exact Nat.le_refl _)
      rw [hx]
      exact Rd.nil _ _ _
    · exact h.drop k
end

/-! append. -/
section
variable {P : Program} (w : World)
/-- 'append(v, x...)', v the call's own, x a slice that can be read, nil or not. -/
theorem run_append_rd (base : Nat) (t ty e : TypeId) (i : TypeInfo) (z : Value) (size bytes : Nat) (ht : P.underlying t = some (.slice e)) (hi : P.info? e = some i) (hz : i.zero = some z)
    (hsize : i.size = size) (hby : i.bytes = bytes) (hzs : z.cells.size = size) (hsz : 0 < size)
    (v : Value) (n : Nat) (xs : List Value) (hown : w.ownsRow base e size v n xs)
    (A : Option Addr) (m c : Nat) (news : List Value) (hr : Rd w size A m news) (h1 : ∀ u ∈ news, u.oneCell' = true)
    (h63 : n + m ≤ maxLen) (hbytes : (n + m) * bytes ≤ 140737488355328) (hbase : base ≤ w.heap.size) :
    ∃ v' w', (Builtin.append_ #[t, t] ty #[v, .slice A m c]).run P w = .ok v' w' ∧ w'.ownsRow base e size v' (n + m) (xs ++ news) ∧ w.grownBy w' v.ownBlock ∧
      (v'.ownBlock = v.ownBlock ∨ v'.ownBlock = some w.heap.size) ∧ (v' = .slice none 0 0 ↔ v = .slice none 0 0 ∧ m = 0) := by
  cases A with
  | none =>
    obtain rfl : m = 0 := by
      rcases Nat.eq_zero_or_pos m with h0 | h0
      · exact h0
      · obtain ⟨b, o, h, _⟩ := hr.at_ h0
        cases h
    obtain rfl : news = [] := List.eq_nil_of_length_eq_zero (by simpa using hr.len)
    refine ⟨v, w, ?_, by simpa using hown, World.grownBy.refl w _, .inl rfl, by simp⟩
    rcases hown.2 with ⟨rfl, rfl⟩ | ⟨g, cap, cur, rfl, _, _, hnc, _⟩
    · simp [Builtin.append_, run_underlying ht, sizeOf, typeInfo, hi, Builtin.lenOf, Builtin.firstCells]
    · simp [Builtin.append_, run_underlying ht, sizeOf, typeInfo, hi, Builtin.lenOf, Builtin.firstCells, hnc, storeCells]
  | some ad =>
    have hc : ∀ j u, news[j]? = some u → w.cell? (ad.add j) = some u := fun j u hu => by
      rcases Nat.eq_zero_or_pos m with h0 | h0
      · obtain rfl : news = [] := List.eq_nil_of_length_eq_zero (by simpa [h0] using hr.len)
        cases hu
      · obtain ⟨b, o, h, _, hc⟩ := hr.at_ h0
        cases h
        rw [addr_add]
        exact hc j u hu
    obtain ⟨v', w', hrun, h2, h3, h4, h5⟩ := run_append_own_at (P := P) w base t ty e i z size bytes ht hi hz hsize hby hzs hsz v n xs hown ad m c news hr.len hc h1 h63 hbytes hbase
    exact ⟨v', w', hrun, h2, h3, h5, h4⟩
theorem wp_append_rd {o : Oper} {a : Act} {K : Act → World → Prop} {Q : Exit → Act → World → Prop} (s x : Operand) (t : TypeId)
    (ho : o.op = .call { callee := .builtin .append, args := #[s, x], argTypes := #[t, t] })
    (base : Nat) (e : TypeId) (i : TypeInfo) (z : Value) (size bytes : Nat) (ht : P.underlying t = some (.slice e)) (hi : P.info? e = some i) (hz : i.zero = some z)
    (hsize : i.size = size) (hby : i.bytes = bytes) (hzs : z.cells.size = size) (hsz : 0 < size)
    (v : Value) (n : Nat) (xs : List Value) (hs : a.eval s = v) (hown : w.ownsRow base e size v n xs)
    (A : Option Addr) (m c : Nat) (news : List Value) (hx : a.eval x = .slice A m c) (hr : Rd w size A m news) (h1 : ∀ u ∈ news, u.oneCell' = true)
    (h63 : n + m ≤ maxLen) (hbytes : (n + m) * bytes ≤ 140737488355328) (hbase : base ≤ w.heap.size)
    (h : ∀ v' w', w'.ownsRow base e size v' (n + m) (xs ++ news) → w.grownBy w' v.ownBlock → (v'.ownBlock = v.ownBlock ∨ v'.ownBlock = some w.heap.size) → (v' = .slice none 0 0 ↔ v = .slice none 0 0 ∧ m = 0) → K (a.put o.dst v') w') : o.wp P a w K Q := by
  obtain ⟨v', w', hrun, h2, h3, h4, h5⟩ := run_append_rd (P := P) w base t o.type e i z size bytes ht hi hz hsize hby hzs hsz v n xs hown A m c news hr h1 h63 hbytes hbase
  unfold Oper.wp execOp
  simp only [ho, resolve, invoke, builtin, Sem.run_bind, Sem.run_pure, Result.andThen_ok, List.map_toArray, List.map_cons, List.map_nil, hs, hx, hrun]
  exact h v' w' h2 h3 h4 h5
theorem wpList_append_rd {ops : Array Oper} {rest : List Oper} {o : Oper} {a : Act} {Q : Exit → Act → World → Prop} (hgd : o.guard = none) (s x : Operand) (t : TypeId)
    (ho : o.op = .call { callee := .builtin .append, args := #[s, x], argTypes := #[t, t] })
    (base : Nat) (e : TypeId) (i : TypeInfo) (z : Value) (size bytes : Nat) (ht : P.underlying t = some (.slice e)) (hi : P.info? e = some i) (hz : i.zero = some z)
    (hsize : i.size = size) (hby : i.bytes = bytes) (hzs : z.cells.size = size) (hsz : 0 < size)
    (v : Value) (n : Nat) (xs : List Value) (hs : a.eval s = v) (hown : w.ownsRow base e size v n xs)
    (A : Option Addr) (m c : Nat) (news : List Value) (hx : a.eval x = .slice A m c) (hr : Rd w size A m news) (h1 : ∀ u ∈ news, u.oneCell' = true)
    (h63 : n + m ≤ maxLen) (hbytes : (n + m) * bytes ≤ 140737488355328) (hbase : base ≤ w.heap.size)
    (h : ∀ v' w', w'.ownsRow base e size v' (n + m) (xs ++ news) → w.grownBy w' v.ownBlock → (v'.ownBlock = v.ownBlock ∨ v'.ownBlock = some w.heap.size) → (v' = .slice none 0 0 ↔ v = .slice none 0 0 ∧ m = 0) → wpList P ops Q rest (a.put o.dst v') w') :
    wpList P ops Q (o :: rest) a w :=
  wpList_plain hgd fun _ hK => wp_append_rd w s x t ho base e i z size bytes ht hi hz hsize hby hzs hsz v n xs hs hown A m c news hx hr h1 h63 hbytes hbase fun v' w' h2 h3 h4 h5 => hK _ _ (h v' w' h2 h3 h4 h5)
theorem step_append_rd {ops : Array Oper} {o : Oper} {a : Act} {K : Act → World → Prop} {Q : Exit → Act → World → Prop} {E : Prop} (hgd : o.guard = none) (s x : Operand) (t : TypeId)
    (ho : o.op = .call { callee := .builtin .append, args := #[s, x], argTypes := #[t, t] })
    (base : Nat) (e : TypeId) (i : TypeInfo) (z : Value) (size bytes : Nat) (ht : P.underlying t = some (.slice e)) (hi : P.info? e = some i) (hz : i.zero = some z)
    (hsize : i.size = size) (hby : i.bytes = bytes) (hzs : z.cells.size = size) (hsz : 0 < size)
    (v : Value) (n : Nat) (xs : List Value) (hs : a.eval s = v) (hown : w.ownsRow base e size v n xs)
    (A : Option Addr) (m c : Nat) (news : List Value) (hx : a.eval x = .slice A m c) (hr : Rd w size A m news) (h1 : ∀ u ∈ news, u.oneCell' = true)
    (h63 : n + m ≤ maxLen) (hbytes : (n + m) * bytes ≤ 140737488355328) (hbase : base ≤ w.heap.size)
    (h : ∀ v' w', w'.ownsRow base e size v' (n + m) (xs ++ news) → w.grownBy w' v.ownBlock → (v'.ownBlock = v.ownBlock ∨ v'.ownBlock = some w.heap.size) → (v' = .slice none 0 0 ↔ v = .slice none 0 0 ∧ m = 0) → K (a.put o.dst v') w') :
    if Region.wanted o (yielded ops a.tmps) = true then Oper.wp P o a w K Q else E := by
  have hw : Region.wanted o (yielded ops a.tmps) = true := by simp [Region.wanted, hgd]
  rw [if_pos hw]
  exact wp_append_rd w s x t ho base e i z size bytes ht hi hz hsize hby hzs hsz v n xs hs hown A m c news hx hr h1 h63 hbytes hbase h
end
end Go.Proofs.Ytjobdncikpnojaa
