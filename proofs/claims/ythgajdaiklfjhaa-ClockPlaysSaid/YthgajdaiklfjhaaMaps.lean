/-
  A map in memory as a partial function of its keys: looked up, stored into, deleted from. It speaks of no program.
-/
import Derived.Test.YthgajdaiklfjhaaOwn
import Derived.Maps.Keyed
import Derived.Maps.Own
import Derived.Maps.OwnOps
import Derived.Maps.OwnSet
import Derived.Maps.OwnIn
namespace Go.Proofs.Ythgajdaiklfjhaa
open Go.RowKit
open Go.Maps (Keyed)

section
variable {α : Type} {P : Program} {kt : TypeId} {enc : α → Value} {Kd : α → Prop}
/-- How keys lie: each is read as a key, and tells itself. -/
structure KeyEnc (P : Program) (kt : TypeId) (enc : α → Value) (Kd : α → Prop) : Prop where
  keyed : Keyed P kt
  read : ∀ x, Kd x → ∃ l, keyOf P kt (enc x) = some l
  inj : ∀ x y, enc x = enc y → x = y
/-- Block b is a map that holds M. -/
def MapAt (enc : α → Value) (Kd : α → Prop) (w : World) (b : Nat) (M : α → Option Value) : Prop :=
  ∃ es clock, w.heap[b]? = some (.map es clock) ∧ (∀ e ∈ es.toList, ∃ x, Kd x ∧ e.key = enc x ∧ M x = some e.val) ∧ (∀ x v, M x = some v → ∃ e ∈ es.toList, e.key = enc x ∧ e.val = v) ∧
    es.toList.Pairwise fun e e' => e.key ≠ e'.key
variable {w w' : World} {b : Nat} {M : α → Option Value}
theorem MapAt.lt (h : MapAt enc Kd w b M) : b < w.heap.size := by
  obtain ⟨es, clock, hb, _⟩ := h
  exact (Array.getElem?_eq_some_iff.1 hb).1
theorem MapAt.of_block (h : MapAt enc Kd w b M) (hb : w'.heap[b]? = w.heap[b]?) : MapAt enc Kd w' b M := by
  obtain ⟨es, clock, h1, r⟩ := h
  exact ⟨es, clock, hb.trans h1, r⟩
theorem MapAt.below (h : MapAt enc Kd w b M) (k : Below w.heap.size w w') : MapAt enc Kd w' b M := h.of_block (k.block b h.lt)
theorem MapAt.only (h : MapAt enc Kd w b M) {d : Nat} (k : Only w w' d) (hne : b ≠ d) : MapAt enc Kd w' b M := h.of_block (k.block b h.lt (fun e => hne (by cases e; rfl)))
theorem MapAt.drewN (h : MapAt enc Kd w b M) (n : Nat) : MapAt enc Kd (w.drewN n) b M := h
theorem MapAt.congr (h : MapAt enc Kd w b M) {M' : α → Option Value} (e : ∀ x, M x = M' x) : MapAt enc Kd w b M' := by
  rw [show M' = M from funext fun x => (e x).symm]; exact h
theorem MapAt.kd (h : MapAt enc Kd w b M) (K : KeyEnc P kt enc Kd) {x : α} {v : Value} (hx : M x = some v) : Kd x := by
  obtain ⟨es, clock, h1, h2, h3, h4⟩ := h
  obtain ⟨e, he, hk, _⟩ := h3 x v hx
  obtain ⟨y, hy, hk', _⟩ := h2 e he
  rw [hk] at hk'
  rw [K.inj _ _ hk']
  exact hy
theorem map_new (w : World) : MapAt enc Kd (w.alloc (.map #[] 0)) w.heap.size (fun _ => none) :=
  ⟨#[], 0, (MapKept.heap_alloc w _).1, by simp, by simp, by simp⟩
/-- It is no block of cells. -/
theorem MapAt.ne_row (h : MapAt enc Kd w b M) {b' t n : Nat} {f : Nat → Value} (r : w.rowIs b' t n f) : b ≠ b' := by
  rintro rfl
  obtain ⟨es, clock, h1, _⟩ := h
  obtain ⟨c, h2, _⟩ := r
  rw [h1] at h2; cases h2
theorem MapAt.ne_own (h : MapAt enc Kd w b M) {base e size n c g : Nat} {a : Option Addr} {xs : List Value} (o : OwnAt w base e size a n c g xs) : a ≠ none → b ≠ g := by
  rintro ha rfl
  obtain ⟨es, clock, h1, _⟩ := h
  rcases o.own.2 with ⟨h2, _⟩ | ⟨g', cap, cur, h2, _, hg, _⟩
  · cases h2; exact ha rfl
  · cases h2
    have e1 := (o.blk _ rfl).1
    cases e1
    rw [h1] at hg; cases hg
theorem MapAt.find (h : MapAt enc Kd w b M) (K : KeyEnc P kt enc Kd) {x : α} (hx : Kd x) : ∃ es clock, w.heap[b]? = some (.map es clock) ∧
    (((Instr.findKey kt (enc x) es.toList).run P w = .ok none w ∧ M x = none ∧ ∀ e ∈ es.toList, e.key ≠ enc x) ∨
     ∃ j e, (Instr.findKey kt (enc x) es.toList).run P w = .ok (some (j, e.val)) w ∧ es.toList[j]? = some e ∧ e.key = enc x ∧ M x = some e.val) := by
  obtain ⟨es, clock, h1, h2, h3, h4⟩ := h
  obtain ⟨l, hl⟩ := K.read x hx
  refine ⟨es, clock, h1, ?_⟩
  rcases K.keyed.find w hl es.toList (fun e he => by
    obtain ⟨y, hy, hk, _⟩ := h2 e he
    rw [hk]; exact K.read y hy) with ⟨f1, f2⟩ | ⟨j, e, f1, f2, f3⟩
  · refine .inl ⟨f1, ?_, f2⟩
    cases hM : M x with
    | none => rfl
    | some v =>
      obtain ⟨e, he, hk, _⟩ := h3 x v hM
      exact absurd hk (f2 e he)
  · refine .inr ⟨j, e, f1, f2, f3, ?_⟩
    obtain ⟨y, hy, hk, hv⟩ := h2 e (List.mem_of_getElem? f2)
    rw [f3] at hk
    rw [K.inj _ _ hk]; exact hv
/-- 'm[k]', 'v, ok := m[k]'. -/
theorem MapAt.look (h : MapAt enc Kd w b M) (K : KeyEnc P kt enc Kd) {t e : TypeId} (ht : P.underlying t = some (.map kt e)) {z : Value} (hz : ∀ W : World, (zeroValue e).run P W = .ok z W) {x : α} (hx : Kd x) (c : Bool) :
    (Instr.lookup t (.map (some b)) (enc x) c).run P w = .ok (if c then .tuple #[(M x).getD z, .bool (M x).isSome] else (M x).getD z) w := by
  obtain ⟨l, hl⟩ := K.read x hx
  obtain ⟨es, clock, h1, ⟨f1, f2, _⟩ | ⟨j, e0, f1, f2, f3, f4⟩⟩ := h.find K hx
  · rw [f2]
    simp [Instr.lookup, run_underlying ht, MapKept.run_getObj_map h1, K.keyed.check w _ hl, f1, hz, Result.andThen]
  · rw [f4]
    simp [Instr.lookup, run_underlying ht, MapKept.run_getObj_map h1, K.keyed.check w _ hl, f1, Result.andThen]
variable [DecidableEq α]
def putM (M : α → Option Value) (x : α) (v : Value) : α → Option Value := fun y => if y = x then some v else M y
def delM (M : α → Option Value) (x : α) : α → Option Value := fun y => if y = x then none else M y
theorem only_setObj {w : World} {b : Nat} (hb : b < w.heap.size) (o : Obj) : Only w { w with heap := w.heap.setIfInBounds b o } b :=
  ⟨rfl, rfl, rfl, by simp, fun k _ hne => by
    show (w.heap.setIfInBounds b o)[k]? = w.heap[k]?
    rw [Array.getElem?_setIfInBounds, if_neg (fun e => hne (by rw [e]))]⟩
/-- 'm[k] = v'. -/
theorem MapAt.store (h : MapAt enc Kd w b M) (K : KeyEnc P kt enc Kd) {t e : TypeId} (ht : P.underlying t = some (.map kt e)) {x : α} (hx : Kd x) (v : Value) :
    ∃ w', (Instr.mapUpdate t (.map (some b)) (enc x) v).run P w = .ok () w' ∧ MapAt enc Kd w' b (putM M x v) ∧ Only w w' b := by
  obtain ⟨l, hl⟩ := K.read x hx
  have hlt := h.lt
  obtain ⟨es, clock, h1, hf⟩ := h.find K hx
  obtain ⟨es', clock', h1', h2, h3, h4⟩ := h
  rw [h1] at h1'
  cases h1'
  have hget : ∀ o : Obj, (w.heap.setIfInBounds b o)[b]? = some o := fun o => by rw [Array.getElem?_setIfInBounds, if_pos rfl, if_pos hlt]
  rcases hf with ⟨f1, f2, f3⟩ | ⟨j, e0, f1, f2, f3, f4⟩
  · refine ⟨_, by simp [Instr.mapUpdate, run_underlying ht, MapKept.run_getObj_map h1, K.keyed.check w false hl, f1, MapKept.run_setObj_map _ h1, Result.andThen], ⟨es.push ⟨enc x, v, clock⟩, clock + 1, hget _, ?_, ?_, ?_⟩, only_setObj hlt _⟩
    · intro e he
      rw [Array.toList_push] at he
      rcases List.mem_append.1 he with he | he
      · obtain ⟨y, hy, hk, hv⟩ := h2 e he
        refine ⟨y, hy, hk, ?_⟩
        unfold putM
        rw [if_neg (fun ey => f3 e he (by rw [hk, ey]))]
        exact hv
      · obtain rfl := List.mem_singleton.1 he
        exact ⟨x, hx, rfl, by unfold putM; rw [if_pos rfl]⟩
    · intro y u hy
      unfold putM at hy
      rw [Array.toList_push]
      split at hy
      · rename_i e; cases hy; subst e
        exact ⟨_, List.mem_append_right _ (List.mem_singleton_self _), rfl, rfl⟩
      · obtain ⟨e, he, hk⟩ := h3 y u hy
        exact ⟨e, List.mem_append_left _ he, hk⟩
    · rw [Array.toList_push, List.pairwise_append]
      refine ⟨h4, List.pairwise_singleton _ _, fun e he e' he' => ?_⟩
      obtain rfl := List.mem_singleton.1 he'
      exact f3 e he
  · have hjl : j < es.toList.length := (List.getElem?_eq_some_iff.1 f2).1
    have hjs : j < es.size := by simpa using hjl
    have hej : es[j]? = some e0 := by simpa using f2
    have hmod : (es.modify j fun e => { e with key := enc x, val := v }).toList = es.toList.set j { e0 with key := enc x, val := v } := by
      apply List.ext_getElem?
      intro i
      rw [Array.getElem?_toList, Array.getElem?_modify, List.getElem?_set]
      by_cases hij : j = i
      · subst hij
        rw [if_pos rfl, if_pos rfl, if_pos hjl, hej]; rfl
      · rw [if_neg hij, if_neg hij, Array.getElem?_toList]
    refine ⟨_, by simp [Instr.mapUpdate, run_underlying ht, MapKept.run_getObj_map h1, K.keyed.check w false hl, f1, hej, f3, K.keyed.stays w hl, MapKept.run_setObj_map _ h1, Result.andThen], ⟨es.modify j fun e => { e with key := enc x, val := v }, clock, hget _, ?_, ?_, ?_⟩, only_setObj hlt _⟩
    · intro e he
      rw [hmod] at he
      obtain ⟨i, hi⟩ := List.getElem?_of_mem he
      rw [List.getElem?_set] at hi
      split at hi
      · cases hi
        exact ⟨x, hx, rfl, by unfold putM; rw [if_pos rfl]⟩
      · rename_i hji
        have hem := List.mem_of_getElem? hi
        obtain ⟨y, hy, hk, hv⟩ := h2 e hem
        refine ⟨y, hy, hk, ?_⟩
        unfold putM
        rw [if_neg ?_]
        · exact hv
        · rintro rfl
          obtain ⟨g1, g2⟩ := List.getElem?_eq_some_iff.1 f2
          obtain ⟨g3, g4⟩ := List.getElem?_eq_some_iff.1 hi
          rcases Nat.lt_or_ge j i with hlt' | hge
          · have := List.pairwise_iff_getElem.1 h4 j i g1 g3 hlt'
            rw [g2, g4, f3, hk] at this
            exact this rfl
          · have := List.pairwise_iff_getElem.1 h4 i j g3 g1 (by omega)
            rw [g2, g4, f3, hk] at this
            exact this rfl
    · intro y u hy
      unfold putM at hy
      rw [hmod]
      split at hy
      · rename_i e; cases hy; subst e
        exact ⟨_, List.mem_of_getElem? (i := j) (by rw [List.getElem?_set, if_pos rfl, if_pos hjl]), rfl, rfl⟩
      · rename_i hyx
        obtain ⟨e, he, hk, hv⟩ := h3 y u hy
        obtain ⟨i, hi⟩ := List.getElem?_of_mem he
        refine ⟨e, List.mem_of_getElem? (i := i) ?_, hk, hv⟩
        rw [List.getElem?_set, if_neg ?_]
        · exact hi
        · rintro rfl
          rw [f2] at hi
          cases hi
          rw [f3] at hk
          exact hyx (K.inj _ _ hk).symm
    · rw [hmod, List.pairwise_iff_getElem]
      intro i1 i2 g1 g2 g3
      rw [List.length_set] at g1 g2
      have hkey : ∀ i (g : i < es.toList.length), ((es.toList.set j { e0 with key := enc x, val := v })[i]'(by rw [List.length_set]; exact g)).key = (es.toList[i]).key := fun i g => by
        rw [List.getElem_set]
        split
        · rename_i hji; subst hji
          have := (List.getElem?_eq_some_iff.1 f2).2
          rw [this, f3]
        · rfl
      rw [hkey i1 g1, hkey i2 g2]
      exact List.pairwise_iff_getElem.1 h4 i1 i2 g1 g2 g3
/-- 'delete(m, k)'. -/
theorem MapAt.del (h : MapAt enc Kd w b M) (K : KeyEnc P kt enc Kd) {t e ty : TypeId} (ht : P.underlying t = some (.map kt e)) {x : α} (hx : Kd x) :
    ∃ w', (Builtin.delete_ #[t, kt] ty #[.map (some b), enc x]).run P w = .ok (.tuple #[]) w' ∧ MapAt enc Kd w' b (delM M x) ∧ Only w w' b := by
  obtain ⟨l, hl⟩ := K.read x hx
  have hlt := h.lt
  obtain ⟨es, clock, h1, hf⟩ := h.find K hx
  obtain ⟨es', clock', h1', h2, h3, h4⟩ := h
  rw [h1] at h1'
  cases h1'
  have hget : ∀ o : Obj, (w.heap.setIfInBounds b o)[b]? = some o := fun o => by rw [Array.getElem?_setIfInBounds, if_pos rfl, if_pos hlt]
  rcases hf with ⟨f1, f2, f3⟩ | ⟨j, e0, f1, f2, f3, f4⟩
  · refine ⟨_, by simp [Builtin.delete_, run_underlying ht, MapKept.run_getObj_map h1, K.keyed.check w _ hl, f1, MapKept.run_setObj_map _ h1, Result.andThen], ⟨es, clock, hget _, ?_, ?_, h4⟩, only_setObj hlt _⟩
    · intro e he
      obtain ⟨y, hy, hk, hv⟩ := h2 e he
      refine ⟨y, hy, hk, ?_⟩
      unfold delM
      rw [if_neg (fun ey => f3 e he (by rw [hk, ey]))]
      exact hv
    · intro y u hy
      unfold delM at hy
      split at hy
      · cases hy
      · exact h3 y u hy
  · have hjl : j < es.toList.length := (List.getElem?_eq_some_iff.1 f2).1
    have hjs : j < es.size := by simpa using hjl
    have hsub : (es.eraseIdxIfInBounds j).toList = es.toList.eraseIdx j := by
      unfold Array.eraseIdxIfInBounds
      rw [dif_pos hjs]
      simp
    have hne : ∀ e ∈ es.toList.eraseIdx j, e.key ≠ enc x := fun e he => by
      rw [List.mem_eraseIdx_iff_getElem?] at he
      obtain ⟨i, hij, hi⟩ := he
      obtain ⟨g1, g2⟩ := List.getElem?_eq_some_iff.1 f2
      obtain ⟨g3, g4⟩ := List.getElem?_eq_some_iff.1 hi
      rw [← f3]
      rcases Nat.lt_or_ge j i with hlt' | hge
      · have := List.pairwise_iff_getElem.1 h4 j i g1 g3 hlt'
        rw [g2, g4] at this
        exact this.symm
      · have := List.pairwise_iff_getElem.1 h4 i j g3 g1 (by omega)
        rw [g2, g4] at this
        exact this
    refine ⟨_, by simp [Builtin.delete_, run_underlying ht, MapKept.run_getObj_map h1, K.keyed.check w _ hl, f1, MapKept.run_setObj_map _ h1, Result.andThen], ⟨es.eraseIdxIfInBounds j, clock, hget _, ?_, ?_, ?_⟩, only_setObj hlt _⟩
    · intro e he
      rw [hsub] at he
      obtain ⟨y, hy, hk, hv⟩ := h2 e ((List.eraseIdx_sublist _ _).subset he)
      refine ⟨y, hy, hk, ?_⟩
      unfold delM
      rw [if_neg (fun ey => hne e he (by rw [hk, ey]))]
      exact hv
    · intro y u hy
      unfold delM at hy
      rw [hsub]
      split at hy
      · cases hy
      · rename_i hyx
        obtain ⟨e, he, hk, hv⟩ := h3 y u hy
        refine ⟨e, ?_, hk, hv⟩
        rw [List.mem_eraseIdx_iff_getElem?]
        obtain ⟨i, hi⟩ := List.getElem?_of_mem he
        refine ⟨i, ?_, hi⟩
        rintro rfl
        rw [f2] at hi
        cases hi
        rw [f3] at hk
        exact hyx (K.inj _ _ hk).symm
    · rw [hsub]
      exact h4.sublist (List.eraseIdx_sublist _ _)
end

/-! At the operation. -/
section
variable {α : Type} [DecidableEq α] {P : Program} {kt : TypeId} {enc : α → Value} {Kd : α → Prop} {b : Nat} {M : α → Option Value} (w : World)
theorem wpList_store_map {ops : Array Oper} {rest : List Oper} {o : Oper} {a : Act} {Q : Exit → Act → World → Prop} (hg : o.guard = none) (m x v : Operand) (t : TypeId) (hop : o.op = Op.mapUpdate t m x v) {e : TypeId}
    (ht : P.underlying t = some (.map kt e)) (K : KeyEnc P kt enc Kd) (h : MapAt enc Kd w b M) (hm : a.eval m = .map (some b)) (k : α) (hk : Kd k) (hx : a.eval x = enc k) (val : Value) (hv : a.eval v = val)
    (hK : ∀ w', MapAt enc Kd w' b (putM M k val) → Only w w' b → wpList P ops Q rest (a.put o.dst undef) w') : wpList P ops Q (o :: rest) a w := by
  refine wpList_plain hg fun K' hK' => ?_
  obtain ⟨w', hrun, r1, r2⟩ := h.store K ht hk val
  unfold Oper.wp
  simp [execOp, hop, hm, hx, hv, hrun, Result.andThen]
  exact hK' _ _ (hK w' r1 r2)
theorem wpList_del_map {ops : Array Oper} {rest : List Oper} {o : Oper} {a : Act} {Q : Exit → Act → World → Prop} (hg : o.guard = none) (m x : Operand) (t : TypeId)
    (hop : o.op = Op.call { callee := Callee.builtin Builtin.delete, args := #[m, x], argTypes := #[t, kt] }) {e : TypeId}
    (ht : P.underlying t = some (.map kt e)) (K : KeyEnc P kt enc Kd) (h : MapAt enc Kd w b M) (hm : a.eval m = .map (some b)) (k : α) (hk : Kd k) (hx : a.eval x = enc k)
    (hK : ∀ w', MapAt enc Kd w' b (delM M k) → Only w w' b → wpList P ops Q rest (a.put o.dst (.tuple #[])) w') : wpList P ops Q (o :: rest) a w := by
  refine wpList_plain hg fun K' hK' => ?_
  obtain ⟨w', hrun, r1, r2⟩ := h.del (ty := o.type) K ht hk
  unfold Oper.wp
  simp [execOp, hop, resolve, invoke, builtin, hm, hx, hrun, Result.andThen]
  exact hK' _ _ (hK w' r1 r2)
end
end Go.Proofs.Ythgajdaiklfjhaa
