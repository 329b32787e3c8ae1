/-
  The document's world in memory.
-/
import Derived.Test.YtjobdncikpnojaaRefN
namespace Go.Proofs.Ytjobdncikpnojaa
open Go.RowKit
/-- A row whose first n cells are f's. -/
structure Arr (w : World) (b t n : Nat) (f : Nat → Value) : Prop where
  row : ∃ m f', w.rowIs b t m f' ∧ n ≤ m ∧ ∀ i, i < n → f' i = f i
section
variable {w w' : World} {b t n : Nat} {f g : Nat → Value}
theorem Arr.cell (h : Arr w b t n f) {i : Nat} (hi : i < n) : w.cell? ⟨b, i, none⟩ = some (f i) := by
  obtain ⟨m, f', r, hm, he⟩ := h.row
  rw [← he i hi]
  exact r.cell (by omega)
theorem Arr.frozen (h : Arr w b t n f) (i : Nat) : w.frozen? ⟨b, i, none⟩ = false := by
  obtain ⟨m, f', r, _⟩ := h.row
  exact r.frozen i
theorem Arr.lt (h : Arr w b t n f) : b < w.heap.size := by
  obtain ⟨m, f', r, _⟩ := h.row
  exact r.lt
theorem Arr.of_block (h : Arr w b t n f) (e : w'.heap[b]? = w.heap[b]?) : Arr w' b t n f := by
  obtain ⟨m, f', r, hm, he⟩ := h.row
  exact ⟨m, f', r.of_block e, hm, he⟩
theorem Arr.congr (h : Arr w b t n f) (e : ∀ i, i < n → f i = g i) : Arr w b t n g := by
  obtain ⟨m, f', r, hm, he⟩ := h.row
  exact ⟨m, f', r, hm, fun i hi => (he i hi).trans (e i hi)⟩
theorem Arr.set (h : Arr w b t n f) (k : Nat) (v : Value) : Arr (w.setCell ⟨b, k, none⟩ v) b t n (fun i => if i = k then v else f i) := by
  obtain ⟨m, f', r, hm, he⟩ := h.row
  exact ⟨m, _, r.set k v, hm, fun i hi => by
    show (if i = k then v else f' i) = _
    split
    · rfl
    · exact he i hi⟩
theorem Arr.typ (h : Arr w b t n f) : ∃ cs, w.heap[b]? = some (.cells cs t (0, 0)) := by
  obtain ⟨m, f', r, _⟩ := h.row
  exact cells_of_row r
theorem arr_of_own {base : Nat} {a : Option Addr} {c gb : Nat} {z : Value} (h : OwnAt w base t 1 a n c gb (List.replicate n z)) (h0 : 0 < n) : a = some ⟨gb, 0, none⟩ ∧ Arr w gb t n (fun _ => z) := by
  have ha := h.at_ h0
  refine ⟨ha, ?_⟩
  rcases h.own.2 with ⟨h1, h2⟩ | ⟨g', cap, cur, h1, hb, hg, hc, hm, hs, ht⟩
  · omega
  · injection h1 with h1 _ _
    rw [ha] at h1
    injection h1 with h1
    injection h1 with h1
    subst h1
    refine ⟨cur.size, fun i => cur.getD i undef, ⟨cur, hg, rfl, fun i hi => ?_⟩, by rw [hs, Nat.mul_one]; exact hc, fun i hi => ?_⟩
    · simp [Array.getD, hi]
    · have hcell := h.cell (j := i) (u := z) (by rw [List.getElem?_replicate, if_pos hi])
      unfold World.cell? at hcell
      rw [hg] at hcell
      have h3 : cur[i]? = some z := by simpa using hcell
      have h4 : i < cur.size := (Array.getElem?_eq_some_iff.1 h3).1
      simp only [Array.getD, h4, dite_true]
      rw [Array.getElem?_eq_getElem h4] at h3
      exact Option.some.inj h3
end
def upB (f : Nat → Bool) (k : Nat) (v : Bool) : Nat → Bool := fun i => if i = k then v else f i
/-- The struct's cells. -/
def refF (h : Nat → Int) (g c : Nat → Nat) (n : Nat) (tv : Value) (j : Nat) : Value :=
  if j = 0 then .slice (some ⟨g 0, 0, none⟩) n (c 0) else if j = 1 then .slice (some ⟨g 1, 0, none⟩) n (c 1) else if j = 2 then .slice (some ⟨g 2, 0, none⟩) n (c 2) else if j = 11 then tv else if j = 12 then .slice (some ⟨g 3, 0, none⟩) n (c 3) else .int .i64 (h (j - 3))
structure RW (w : World) (Z R : Nat) (g c : Nat → Nat) (n : Nat) (pr : Nat → Value) (pc : Nat → Int) (on : Nat → Bool) (st : Nat → Int) (h : Nat → Int) (aT : Option Addr) (cT gT : Nat) (told : List (Int × Int)) : Prop where
  row : w.rowIs R 63 13 (refF h g c n (.slice aT told.length cT))
  aP : Arr w (g 0) 44 n pr
  aA : Arr w (g 1) 3 n (fun i => .int .i64 (pc i))
  aO : Arr w (g 2) 4 n (fun i => .bool (on i))
  aS : Arr w (g 3) 3 n (fun i => .int .i64 (st i))
  own : OwnAt w Z 51 2 aT told.length cT gT (cells2 told)
  gn : aT = none → gT = R
  ne : g 1 ≠ g 3
  n16 : 0 < n ∧ n ≤ 16
  zw : Z ≤ w.heap.size
  lo : Z ≤ R ∧ Z ≤ g 0 ∧ Z ≤ g 1 ∧ Z ≤ g 2 ∧ Z ≤ g 3
theorem ne_typ {w : World} {b b' t t' : Nat} (h : ∃ cs, w.heap[b]? = some (.cells cs t (0, 0))) (h' : ∃ cs, w.heap[b']? = some (.cells cs t' (0, 0))) (ht : t ≠ t') : b ≠ b' := by
  rintro rfl
  obtain ⟨c, h⟩ := h
  obtain ⟨c', h'⟩ := h'
  rw [h] at h'
  injection h' with h'
  injection h' with _ h'
  exact ht h'
section
variable {w w' : World} {Z R : Nat} {g c : Nat → Nat} {n : Nat} {pr : Nat → Value} {pc : Nat → Int} {on : Nat → Bool} {st : Nat → Int} {h : Nat → Int} {aT : Option Addr} {cT gT : Nat} {told : List (Int × Int)}
theorem RW.own_typ (s : RW w Z R g c n pr pc on st h aT cT gT told) (ha : aT ≠ none) : ∃ cs, w.heap[gT]? = some (.cells cs 51 (0, 0)) := by
  rcases s.own.own.2 with ⟨h1, _⟩ | ⟨g', cap, cur, h1, _, hg, _⟩
  · injection h1 with h1 _ _; exact absurd h1 ha
  · injection h1 with h1 _ _
    have e := (s.own.blk _ h1).1
    cases e
    exact ⟨cur, hg⟩
/-- Its blocks are all different. -/
theorem RW.apart (s : RW w Z R g c n pr pc on st h aT cT gT told) : (R ≠ g 0 ∧ R ≠ g 1 ∧ R ≠ g 2 ∧ R ≠ g 3) ∧ (g 0 ≠ g 1 ∧ g 0 ≠ g 2 ∧ g 0 ≠ g 3) ∧ (g 1 ≠ g 2 ∧ g 1 ≠ g 3) ∧ g 2 ≠ g 3 ∧ (aT ≠ none → gT ≠ R ∧ gT ≠ g 0 ∧ gT ≠ g 1 ∧ gT ≠ g 2 ∧ gT ≠ g 3) := by
  have r := cells_of_row s.row
  refine ⟨⟨ne_typ r s.aP.typ (by decide), ne_typ r s.aA.typ (by decide), ne_typ r s.aO.typ (by decide), ne_typ r s.aS.typ (by decide)⟩,
    ⟨ne_typ s.aP.typ s.aA.typ (by decide), ne_typ s.aP.typ s.aO.typ (by decide), ne_typ s.aP.typ s.aS.typ (by decide)⟩, ⟨ne_typ s.aA.typ s.aO.typ (by decide), s.ne⟩, ne_typ s.aO.typ s.aS.typ (by decide), fun ha => ?_⟩
  have o := s.own_typ ha
  exact ⟨ne_typ o r (by decide), ne_typ o s.aP.typ (by decide), ne_typ o s.aA.typ (by decide), ne_typ o s.aO.typ (by decide), ne_typ o s.aS.typ (by decide)⟩
theorem RW.keep (s : RW w Z R g c n pr pc on st h aT cT gT told) {S : List Nat} (k : KeepL w w' S) (h0 : R ∉ S ∧ g 0 ∉ S ∧ g 1 ∉ S ∧ g 2 ∉ S ∧ g 3 ∉ S) (h1 : aT ≠ none → gT ∉ S) : RW w' Z R g c n pr pc on st h aT cT gT told where
  row := s.row.of_block (k.block R s.row.lt h0.1)
  aP := s.aP.of_block (k.block _ s.aP.lt h0.2.1)
  aA := s.aA.of_block (k.block _ s.aA.lt h0.2.2.1)
  aO := s.aO.of_block (k.block _ s.aO.lt h0.2.2.2.1)
  aS := s.aS.of_block (k.block _ s.aS.lt h0.2.2.2.2)
  own := s.own.of_block k.size fun ha => by
    have hlt : gT < w.heap.size := by
      obtain ⟨ad, rfl⟩ : ∃ ad, aT = some ad := by cases aT with | none => exact absurd rfl ha | some ad => exact ⟨ad, rfl⟩
      exact (s.own.blk ad rfl).2.2
    exact k.block gT hlt (h1 ha)
  gn := s.gn
  ne := s.ne
  n16 := s.n16
  zw := Nat.le_trans s.zw k.size
  lo := s.lo
theorem RW.below (s : RW w Z R g c n pr pc on st h aT cT gT told) (k : Below w.heap.size w w') : RW w' Z R g c n pr pc on st h aT cT gT told :=
  s.keep (keepL_below k []) (by simp) (by simp)
theorem RW.drewN (s : RW w Z R g c n pr pc on st h aT cT gT told) (m : Nat) : RW (w.drewN m) Z R g c n pr pc on st h aT cT gT told := s.keep (keepL_drewN w m []) (by simp) (by simp)
theorem RW.setP (s : RW w Z R g c n pr pc on st h aT cT gT told) (k : Nat) (v : Value) : RW (w.setCell ⟨g 0, k, none⟩ v) Z R g c n (upV pr k v) pc on st h aT cT gT told := by
  obtain ⟨h1, h2, h3, h4, h5⟩ := s.apart
  have o := only_set (only_refl w (g 0)) k v
  have bl : ∀ b, b < w.heap.size → b ≠ g 0 → (w.setCell ⟨g 0, k, none⟩ v).heap[b]? = w.heap[b]? := fun b hb hn => o.block b hb (fun e => hn (by cases e; rfl))
  exact ⟨s.row.of_block (bl _ s.row.lt h1.1), (s.aP.set k v).congr (fun i _ => rfl), s.aA.of_block (bl _ s.aA.lt h2.1.symm), s.aO.of_block (bl _ s.aO.lt h2.2.1.symm), s.aS.of_block (bl _ s.aS.lt h2.2.2.symm), s.own.only o (fun ha => (h5 ha).2.1), s.gn, s.ne, s.n16, Nat.le_trans s.zw o.size, s.lo⟩
theorem RW.setA (s : RW w Z R g c n pr pc on st h aT cT gT told) (k : Nat) (v : Int) : RW (w.setCell ⟨g 1, k, none⟩ (.int .i64 v)) Z R g c n pr (upI pc k v) on st h aT cT gT told := by
  obtain ⟨h1, h2, h3, h4, h5⟩ := s.apart
  have o := only_set (only_refl w (g 1)) k (.int .i64 v)
  have bl : ∀ b, b < w.heap.size → b ≠ g 1 → (w.setCell ⟨g 1, k, none⟩ (.int .i64 v)).heap[b]? = w.heap[b]? := fun b hb hn => o.block b hb (fun e => hn (by cases e; rfl))
  exact ⟨s.row.of_block (bl _ s.row.lt h1.2.1), s.aP.of_block (bl _ s.aP.lt h2.1), (s.aA.set k _).congr (fun i _ => by unfold upI; split <;> rfl), s.aO.of_block (bl _ s.aO.lt h3.1.symm), s.aS.of_block (bl _ s.aS.lt h3.2.symm), s.own.only o (fun ha => (h5 ha).2.2.1), s.gn, s.ne, s.n16, Nat.le_trans s.zw o.size, s.lo⟩
theorem RW.setO (s : RW w Z R g c n pr pc on st h aT cT gT told) (k : Nat) (v : Bool) : RW (w.setCell ⟨g 2, k, none⟩ (.bool v)) Z R g c n pr pc (upB on k v) st h aT cT gT told := by
  obtain ⟨h1, h2, h3, h4, h5⟩ := s.apart
  have o := only_set (only_refl w (g 2)) k (.bool v)
  have bl : ∀ b, b < w.heap.size → b ≠ g 2 → (w.setCell ⟨g 2, k, none⟩ (.bool v)).heap[b]? = w.heap[b]? := fun b hb hn => o.block b hb (fun e => hn (by cases e; rfl))
  exact ⟨s.row.of_block (bl _ s.row.lt h1.2.2.1), s.aP.of_block (bl _ s.aP.lt h2.2.1), s.aA.of_block (bl _ s.aA.lt h3.1), (s.aO.set k _).congr (fun i _ => by unfold upB; split <;> rfl), s.aS.of_block (bl _ s.aS.lt h4.symm), s.own.only o (fun ha => (h5 ha).2.2.2.1), s.gn, s.ne, s.n16, Nat.le_trans s.zw o.size, s.lo⟩
theorem RW.setS (s : RW w Z R g c n pr pc on st h aT cT gT told) (k : Nat) (v : Int) : RW (w.setCell ⟨g 3, k, none⟩ (.int .i64 v)) Z R g c n pr pc on (upI st k v) h aT cT gT told := by
  obtain ⟨h1, h2, h3, h4, h5⟩ := s.apart
  have o := only_set (only_refl w (g 3)) k (.int .i64 v)
  have bl : ∀ b, b < w.heap.size → b ≠ g 3 → (w.setCell ⟨g 3, k, none⟩ (.int .i64 v)).heap[b]? = w.heap[b]? := fun b hb hn => o.block b hb (fun e => hn (by cases e; rfl))
  exact ⟨s.row.of_block (bl _ s.row.lt h1.2.2.2), s.aP.of_block (bl _ s.aP.lt h2.2.2), s.aA.of_block (bl _ s.aA.lt h3.2), s.aO.of_block (bl _ s.aO.lt h4), (s.aS.set k _).congr (fun i _ => by unfold upI; split <;> rfl), s.own.only o (fun ha => (h5 ha).2.2.2.2), s.gn, s.ne, s.n16, Nat.le_trans s.zw o.size, s.lo⟩
theorem RW.setH (s : RW w Z R g c n pr pc on st h aT cT gT told) {k : Nat} (hk : k < 8) (v : Int) : RW (w.setCell ⟨R, 3 + k, none⟩ (.int .i64 v)) Z R g c n pr pc on st (Lk.upd h k v) aT cT gT told := by
  obtain ⟨h1, h2, h3, h4, h5⟩ := s.apart
  have o := only_set (only_refl w R) (3 + k) (.int .i64 v)
  have bl : ∀ b, b < w.heap.size → b ≠ R → (w.setCell ⟨R, 3 + k, none⟩ (.int .i64 v)).heap[b]? = w.heap[b]? := fun b hb hn => o.block b hb (fun e => hn (by cases e; rfl))
  refine ⟨(s.row.set (3 + k) _).congr fun j hj => ?_, s.aP.of_block (bl _ s.aP.lt h1.1.symm), s.aA.of_block (bl _ s.aA.lt h1.2.1.symm), s.aO.of_block (bl _ s.aO.lt h1.2.2.1.symm), s.aS.of_block (bl _ s.aS.lt h1.2.2.2.symm), s.own.only o (fun ha => (h5 ha).1), s.gn, s.ne, s.n16, Nat.le_trans s.zw o.size, s.lo⟩
  unfold refF Lk.upd
  by_cases e : j = 3 + k
  · subst e
    rw [if_pos rfl, if_neg (by omega), if_neg (by omega), if_neg (by omega), if_neg (by omega), if_neg (by omega), if_pos (by omega)]
  · rw [if_neg e]
    by_cases e3 : j - 3 = k
    · have hj : j < 3 := by omega
      rcases (show j = 0 ∨ j = 1 ∨ j = 2 by omega) with h | h | h <;> subst h <;> rfl
    · rw [if_neg e3]
/-- Behind an append to what was told, and its store. -/
theorem RW.tell (s : RW w Z R g c n pr pc on st h aT cT gT told) {x : Int × Int} {W w1 : World} {v1 : Value} (bX : Below w.heap.size w W) (ho : w1.ownsRow Z 51 2 v1 (told.length + 1) (cells2 told ++ [.int .i64 x.1, .int .i64 x.2]))
    (hg : W.grownBy w1 (Value.slice aT told.length cT).ownBlock) (hat : v1.ownBlock = (Value.slice aT told.length cT).ownBlock ∨ v1.ownBlock = some W.heap.size) :
    ∃ a' c' g', v1 = .slice a' (told.length + 1) c' ∧ w1.cell? ⟨R, 11, none⟩ = some (.slice aT told.length cT) ∧ w1.frozen? ⟨R, 11, none⟩ = false ∧ RW (w1.setCell ⟨R, 11, none⟩ (.slice a' (told.length + 1) c')) Z R g c n pr pc on st h a' c' g' (told ++ [x]) ∧ (g' = gT ∨ w.heap.size ≤ g') ∧ KeepL w (w1.setCell ⟨R, 11, none⟩ (.slice a' (told.length + 1) c')) [R, gT] := by
  obtain ⟨a', c', g', rfl, oa⟩ := own_at ho
  obtain ⟨h1, h2, h3, h4, h5⟩ := s.apart
  have sW := s.below bX
  have bl1 : ∀ b, b < W.heap.size → (aT ≠ none → gT ≠ b) → w1.heap[b]? = W.heap[b]? := fun b hb hn => sW.own.grown_other hg hb hn
  have s1 : w1.rowIs R 63 13 (refF h g c n (.slice aT told.length cT)) := sW.row.of_block (bl1 R sW.row.lt (fun ha => (h5 ha).1))
  have on_ := only_set (only_refl w1 R) 11 (.slice a' (told.length + 1) c')
  have hl : (told ++ [x]).length = told.length + 1 := by simp
  have blk : ∀ b, b < W.heap.size → b ≠ R → (aT ≠ none → gT ≠ b) → (w1.setCell ⟨R, 11, none⟩ (.slice a' (told.length + 1) c')).heap[b]? = W.heap[b]? := fun b hb hR hn =>
    (on_.block b (Nat.lt_of_lt_of_le hb hg.size) (fun e => hR (by cases e; rfl))).trans (bl1 b hb hn)
  have hgg : a' ≠ none → g' = gT ∧ aT ≠ none ∨ g' = W.heap.size := fun ha => by
    obtain ⟨ad, rfl⟩ : ∃ ad, a' = some ad := by cases a' with | none => exact absurd rfl ha | some ad => exact ⟨ad, rfl⟩
    have e1 := (oa.blk ad rfl).1
    subst e1
    rcases hat with e | e
    · left
      cases aT with
      | none => cases e
      | some ad2 =>
        have e2 := (s.own.blk ad2 rfl).1
        subst e2
        cases e
        exact ⟨rfl, by simp⟩
    · right; cases e; rfl
  have ha' : a' ≠ none := fun e => by have := oa.at_ (by omega); rw [e] at this; cases this
  have hg'R : g' ≠ R := oa.ne s1 (by decide) ha'
  refine ⟨a', c', g', rfl, s1.cell (i := 11) (by omega), s1.frozen 11, ⟨?_, ?_, ?_, ?_, ?_, ?_, fun e => absurd e ha', s.ne, s.n16, ?_, s.lo⟩, ?_, ?_⟩
  · rw [hl]
    refine (s1.set 11 _).congr fun j hj => ?_
    unfold refF
    by_cases e : j = 11
    · subst e; rfl
    · rw [if_neg e, if_neg e, if_neg e]
  · exact sW.aP.of_block (blk _ sW.aP.lt h1.1.symm (fun ha => (h5 ha).2.1))
  · exact sW.aA.of_block (blk _ sW.aA.lt h1.2.1.symm (fun ha => (h5 ha).2.2.1))
  · exact sW.aO.of_block (blk _ sW.aO.lt h1.2.2.1.symm (fun ha => (h5 ha).2.2.2.1))
  · exact sW.aS.of_block (blk _ sW.aS.lt h1.2.2.2.symm (fun ha => (h5 ha).2.2.2.2))
  · rw [hl, cells2_snoc]; exact oa.only on_ (fun _ => hg'R)
  · exact Nat.le_trans (Nat.le_trans sW.zw hg.size) on_.size
  · rcases hgg ha' with ⟨h, _⟩ | h
    · exact .inl h
    · exact .inr (by rw [h]; exact bX.size)
  · refine ⟨?_, ?_, ?_, ?_, fun b hb hn => ?_⟩
    · exact (on_.os.trans hg.os).trans bX.os
    · exact (on_.tape.trans hg.tape).trans bX.tape
    · exact (on_.output.trans hg.output).trans bX.output
    · exact Nat.le_trans bX.size (Nat.le_trans hg.size on_.size)
    · simp only [List.mem_cons, List.not_mem_nil, or_false, not_or] at hn
      exact (blk b (Nat.lt_of_lt_of_le hb bX.size) hn.1 (fun _ e => hn.2 e.symm)).trans (bX.block b hb)
end
/-- The world that New made. -/
theorem rw_new {w0 w : World} {hd : Nat → Int} {an : Nat → Option Addr} {ln cp gb : Nat → Nat} {n : Nat} (s : NS w0 w hd an ln cp gb) (hl : ∀ q, q < 4 → ln q = n) (hn : 0 < n ∧ n ≤ 16) :
    RW w w0.heap.size w0.heap.size gb cp n (fun _ => .slice none 0 0) (fun _ => 0) (fun _ => false) (fun _ => 0) hd none 0 w0.heap.size [] := by
  have o : ∀ q, q < 4 → an q = some ⟨gb q, 0, none⟩ ∧ Arr w (gb q) (tyR q) n (fun _ => zzR q) ∧ w0.heap.size ≤ gb q := fun q hq => by
    have h := s.own q hq
    rw [hl q hq] at h
    have h2 := arr_of_own h hn.1
    exact ⟨h2.1, h2.2, (h.blk _ h2.1).2.1⟩
  refine ⟨s.row.congr fun j hj => ?_, (o 0 (by decide)).2.1, (o 1 (by decide)).2.1, (o 2 (by decide)).2.1, (o 3 (by decide)).2.1, ⟨World.ownsRow_nil _ _ _ _, fun h => absurd h (Nat.lt_irrefl _), fun b hb => by cases hb⟩, fun _ => rfl, ?_, hn, s.bl.size, ⟨Nat.le_refl _, (o 0 (by decide)).2.2, (o 1 (by decide)).2.2, (o 2 (by decide)).2.2, (o 3 (by decide)).2.2⟩⟩
  · unfold newF refF
    rw [(o 0 (by decide)).1, (o 1 (by decide)).1, (o 2 (by decide)).1, (o 3 (by decide)).1, hl 0 (by decide), hl 1 (by decide), hl 2 (by decide), hl 3 (by decide)]
    rfl
  · exact s.ne 1 3 (by decide) (by decide) (by decide) (by rw [(o 1 (by decide)).1]; simp) (by rw [(o 3 (by decide)).1]; simp)
end Go.Proofs.Ytjobdncikpnojaa
