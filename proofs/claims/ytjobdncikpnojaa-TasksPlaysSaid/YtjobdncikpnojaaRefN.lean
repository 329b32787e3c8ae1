/-
  The document's world, made: four rows of the call's own, grown in turn (printed by gen_refn.py).
-/
import Derived.Test.YtjobdncikpnojaaActsX
namespace Go.Proofs.Ytjobdncikpnojaa
open Go.RowKit
def tyR (q : Nat) : TypeId := if q = 0 then 44 else if q = 2 then 4 else 3
def zzR (q : Nat) : Value := if q = 0 then .slice none 0 0 else if q = 2 then .bool false else .int .i64 0
def foR (q : Nat) : Nat := if q = 3 then 12 else q
def upA (f : Nat → Option Addr) (k : Nat) (v : Option Addr) : Nat → Option Addr := fun i => if i = k then v else f i
def upG (f : Nat → Nat) (k v : Nat) : Nat → Nat := fun i => if i = k then v else f i
def newF (hd : Nat → Int) (an : Nat → Option Addr) (ln cp : Nat → Nat) (j : Nat) : Value :=
  if j = 0 then .slice (an 0) (ln 0) (cp 0) else if j = 1 then .slice (an 1) (ln 1) (cp 1) else if j = 2 then .slice (an 2) (ln 2) (cp 2) else if j = 11 then .slice none 0 0 else if j = 12 then .slice (an 3) (ln 3) (cp 3) else .int .i64 (hd (j - 3))
theorem newF_fo (hd : Nat → Int) (an : Nat → Option Addr) (ln cp : Nat → Nat) {q : Nat} (hq : q < 4) : newF hd an ln cp (foR q) = .slice (an q) (ln q) (cp q) := by
  rcases (show q = 0 ∨ q = 1 ∨ q = 2 ∨ q = 3 by omega) with h | h | h | h <;> subst h <;> rfl
theorem newF_up (hd : Nat → Int) (an : Nat → Option Addr) (ln cp : Nat → Nat) {q : Nat} (hq : q < 4) (a : Option Addr) (l c j : Nat) (hj : j ≠ foR q) : newF hd (upA an q a) (upG ln q l) (upG cp q c) j = newF hd an ln cp j := by
  unfold foR at hj
  unfold newF upA upG
  rcases (show q = 0 ∨ q = 1 ∨ q = 2 ∨ q = 3 by omega) with h | h | h | h <;> subst h <;> simp at hj <;> simp [hj]
structure NS (w0 w : World) (hd : Nat → Int) (an : Nat → Option Addr) (ln cp gb : Nat → Nat) : Prop where
  row : w.rowIs w0.heap.size 63 13 (newF hd an ln cp)
  own : ∀ q, q < 4 → OwnAt w w0.heap.size (tyR q) 1 (an q) (ln q) (cp q) (gb q) (List.replicate (ln q) (zzR q))
  ne : ∀ q r, q < 4 → r < 4 → q ≠ r → an q ≠ none → an r ≠ none → gb q ≠ gb r
  bl : Below w0.heap.size w0 w
theorem ty63 (q : Nat) : tyR q ≠ 63 := by unfold tyR; split <;> (try split) <;> decide
section
variable {w0 w W w1 : World} {hd : Nat → Int} {an : Nat → Option Addr} {ln cp gb : Nat → Nat}
theorem NS.size (s : NS w0 w hd an ln cp gb) : w0.heap.size ≤ w.heap.size := s.bl.size
theorem NS.push (s : NS w0 w hd an ln cp gb) {q : Nat} (hq : q < 4) (kW : Below w.heap.size w W) {v1 : Value} (ho : w1.ownsRow w0.heap.size (tyR q) 1 v1 (ln q + 1) (List.replicate (ln q) (zzR q) ++ [zzR q]))
    (hg : W.grownBy w1 (Value.slice (an q) (ln q) (cp q)).ownBlock) (hat : v1.ownBlock = (Value.slice (an q) (ln q) (cp q)).ownBlock ∨ v1.ownBlock = some W.heap.size) :
    ∃ a c g, v1 = .slice a (ln q + 1) c ∧ (w1.frozen? ⟨w0.heap.size, foR q, none⟩ = false ∧ w1.cell? ⟨w0.heap.size, foR q, none⟩ = some (.slice (an q) (ln q) (cp q))) ∧ NS w0 (w1.setCell ⟨w0.heap.size, foR q, none⟩ v1) hd (upA an q a) (upG ln q (ln q + 1)) (upG cp q c) (upG gb q g) := by
  obtain ⟨a, c, g, rfl, oa⟩ := own_at ho
  have hR := s.row.lt
  have oq := (s.own q hq).below kW
  have rowW := rowIs_below s.row kW
  have hRg : an q ≠ none → gb q ≠ w0.heap.size := fun h => oq.ne rowW (ty63 q) h
  have blkR : w1.heap[w0.heap.size]? = W.heap[w0.heap.size]? := oq.grown_other hg rowW.lt hRg
  have row1 := rowW.of_block blkR
  have hga : a ≠ none → g ≠ w0.heap.size := fun h => oa.ne row1 (ty63 q) h
  have hgg : a ≠ none → (an q ≠ none ∧ g = gb q) ∨ g = W.heap.size := fun h => by
    obtain ⟨ad, rfl⟩ : ∃ ad, a = some ad := by cases a with | none => exact absurd rfl h | some ad => exact ⟨ad, rfl⟩
    have e1 := (oa.blk ad rfl).1
    subst e1
    rcases hat with e | e
    · left
      cases han : an q with
      | none => rw [han] at e; cases e
      | some ad =>
        have e2 := (oq.blk ad han).1
        subst e2
        rw [han] at e
        cases e
        exact ⟨by simp, rfl⟩
    · right
      cases e
      rfl
  have others : ∀ r, r < 4 → r ≠ q → OwnAt w1 w0.heap.size (tyR r) 1 (an r) (ln r) (cp r) (gb r) (List.replicate (ln r) (zzR r)) ∧ (an r ≠ none → gb r ≠ w0.heap.size) := fun r hr hne => by
    have or_ := (s.own r hr).below kW
    refine ⟨or_.of_block hg.size fun hn => ?_, fun h => or_.ne rowW (ty63 r) h⟩
    have hlt : gb r < W.heap.size := by
      cases har : an r with
      | none => exact absurd har hn
      | some ad => exact (or_.blk ad har).2.2
    exact oq.grown_other hg hlt fun hnq => s.ne q r hq hr (fun e => hne e.symm) hnq hn
  have on := only_set (only_refl w1 w0.heap.size) (foR q) (.slice a (ln q + 1) c)
  have bW : Below w0.heap.size w0 W := below_then s.bl kW
  refine ⟨a, c, g, rfl, ⟨row1.frozen _, by rw [row1.cell (i := foR q) (by unfold foR; split <;> omega), newF_fo _ _ _ _ hq]⟩, ⟨?_, fun r hr => ?_, fun r1 r2 h1 h2 hne => ?_, ?_⟩⟩
  · refine (row1.set (foR q) _).congr fun j hj => ?_
    by_cases hjq : j = foR q
    · subst hjq
      rw [if_pos rfl, newF_fo _ _ _ _ hq]
      unfold upA upG
      rw [if_pos rfl, if_pos rfl, if_pos rfl]
    · rw [if_neg hjq, newF_up _ _ _ _ hq _ _ _ _ hjq]
  · unfold upA upG
    by_cases hrq : r = q
    · subst hrq
      rw [if_pos rfl, if_pos rfl, if_pos rfl, if_pos rfl]
      have := oa.only on hga
      rw [List.replicate_succ']
      exact this
    · rw [if_neg hrq, if_neg hrq, if_neg hrq, if_neg hrq]
      obtain ⟨h1, h2⟩ := others r hr hrq
      exact h1.only on h2
  · have key : ∀ r, r < 4 → r ≠ q → a ≠ none → an r ≠ none → g ≠ gb r := fun r hr hrq ha hn => by
      rcases hgg ha with ⟨h1, h2⟩ | h1
      · rw [h2]; exact s.ne q r hq hr (fun e => hrq e.symm) h1 hn
      · rw [h1]
        have : gb r < W.heap.size := by
          cases har : an r with
          | none => exact absurd har hn
          | some ad => exact (((s.own r hr).below kW).blk ad har).2.2
        omega
    unfold upA upG
    by_cases e1 : r1 = q
    · have e2 : r2 ≠ q := fun e => hne (e1.trans e.symm)
      rw [if_pos e1, if_neg e2, if_pos e1, if_neg e2]
      exact key r2 h2 e2
    · rw [if_neg e1, if_neg e1]
      by_cases e2 : r2 = q
      · rw [if_pos e2, if_pos e2]
        exact fun x y => (key r1 h1 e1 y x).symm
      · rw [if_neg e2, if_neg e2]
        exact s.ne r1 r2 h1 h2 hne
  · refine below_only ?_ on (Nat.le_refl _)
    exact oq.grown_below hg bW (Nat.le_trans s.bl.size kW.size) (Nat.le_refl _)
theorem NS.hold (s : NS w0 w hd an ln cp gb) {k : Nat} (hk : k < 8) (v : Int) : NS w0 (w.setCell ⟨w0.heap.size, 3 + k, none⟩ (.int .i64 v)) (Lk.upd hd k v) an ln cp gb := by
  have on := only_set (only_refl w w0.heap.size) (3 + k) (.int .i64 v)
  refine ⟨(s.row.set (3 + k) _).congr fun j hj => ?_, fun q hq => (s.own q hq).only on fun h => (s.own q hq).ne s.row (ty63 q) h, s.ne, below_only s.bl on (Nat.le_refl _)⟩
  unfold newF Lk.upd
  by_cases e : j = 3 + k
  · subst e
    rw [if_pos rfl, if_neg (by omega), if_neg (by omega), if_neg (by omega), if_neg (by omega), if_neg (by omega), if_pos (by omega)]
  · rw [if_neg e]
    by_cases e3 : j - 3 = k
    · have hj : j < 3 := by omega
      rcases (show j = 0 ∨ j = 1 ∨ j = 2 by omega) with h | h | h <;> subst h <;> rfl
    · rw [if_neg e3]
end
/-- The world behind a New. -/
def NewP (w0 : World) (n : Nat) (e : Ending) (w' : World) : Prop := ∃ hd an ln cp gb, e = .returned (ptr w0.heap.size) ∧ NS w0 w' hd an ln cp gb ∧ (∀ q, q < 4 → ln q = n) ∧ ∀ k, k < 8 → hd k = -1
theorem infoR44 : (Try.prog.info? 44).map (fun i => (i.zero, i.size, i.bytes)) = some (some (.slice none 0 0), 1, 24) := by kernel_rfl
theorem infoR3 : (Try.prog.info? 3).map (fun i => (i.zero, i.size, i.bytes)) = some (some (.int .i64 0), 1, 8) := by kernel_rfl
theorem infoR4 : (Try.prog.info? 4).map (fun i => (i.zero, i.size, i.bytes)) = some (some (.bool false), 1, 1) := by kernel_rfl
set_option maxRecDepth 100000 in
set_option maxHeartbeats 8000000 in
theorem refnew_any (n : Nat) (hn : n ≤ 16) (w : World) : Calls Try.prog 18 #[.int .i64 (n : Int)] w (NewP w n) := by
  have s0 : NS w (w.alloc (.cells #[.slice none 0 0, .slice none 0 0, .slice none 0 0, .int .i64 0, .int .i64 0, .int .i64 0, .int .i64 0, .int .i64 0, .int .i64 0, .int .i64 0, .int .i64 0, .slice none 0 0, .slice none 0 0] 63)) (fun _ => 0) (fun _ => none) (fun _ => 0) (fun _ => 0) (fun _ => 0) := by
    refine ⟨⟨_, World.alloc_heap_new w _, rfl, fun j hj => ?_⟩, fun q _ => ⟨World.ownsRow_nil _ _ _ _, fun h => absurd h (Nat.lt_irrefl _), fun b hb => by cases hb⟩, fun q r _ _ _ h => absurd rfl h, below_new w _⟩
    rcases (show j = 0 ∨ j = 1 ∨ j = 2 ∨ j = 3 ∨ j = 4 ∨ j = 5 ∨ j = 6 ∨ j = 7 ∨ j = 8 ∨ j = 9 ∨ j = 10 ∨ j = 11 ∨ j = 12 by omega) with h | h | h | h | h | h | h | h | h | h | h | h | h <;> subst h <;> rfl
  go_enter Try.func18, Try.ntmps18
  go_wp2_with fail
  generalize w.alloc (.cells #[.slice none 0 0, .slice none 0 0, .slice none 0 0, .int .i64 0, .int .i64 0, .int .i64 0, .int .i64 0, .int .i64 0, .int .i64 0, .int .i64 0, .int .i64 0, .slice none 0 0, .slice none 0 0] 63) = w2 at *
  obtain ⟨R, hR⟩ : ∃ R, R = w.heap.size := ⟨_, rfl⟩
  rw [← hR]
  have HR := Lib.hid hR
  clear hR
  go_loopw [4] (fun v wr => ∃ (i : Nat) (an : Nat → Option Addr) (ln cp gb : Nat → Nat), i ≤ n ∧ v = .int .i64 i ∧ NS w wr (fun _ => 0) an ln cp gb ∧ ∀ q, q < 4 → ln q = i) (fun v _ => n - (intOf v).toNat)
  case atStart => exact ⟨0, _, _, _, _, Nat.zero_le _, rfl, s0, fun q _ => rfl⟩
  case round =>
    clear s0
    obtain ⟨i, an, ln, cp, gb, hi, rfl, s, hln⟩ := hrel
    have l0 := hln 0 (by decide)
    have l1 := hln 1 (by decide)
    have l2 := hln 2 (by decide)
    have l3 := hln 3 (by decide)
    by_cases hlt : i < n
    · clear hln
      have c0 : wr.cell? ⟨R, 0, none⟩ = some (.slice (an 0) i (cp 0)) := by rw [HR.out, ← l0]; exact s.row.cell (i := 0) (by decide)
      have o0 := Lib.hid ((s.own 0 (by decide)).own.alloc (.cells #[.slice none 0 0] 44))
      rw [l0] at o0
      have r0 := Lib.hid (rd_new wr #[.slice none 0 0] 44 1 1 rfl)
      have z0 := Lib.hid (Nat.le_trans s.bl.size (below_new wr (.cells #[.slice none 0 0] 44)).size)
      have hfin : ∀ (v1 : Value) (w1 : World), w1.ownsRow w.heap.size 44 1 v1 (i + 1) (List.replicate i (zzR 0) ++ [.slice none 0 0]) → (wr.alloc (.cells #[.slice none 0 0] 44)).grownBy w1 (Value.slice (an 0) i (cp 0)).ownBlock → (v1.ownBlock = (Value.slice (an 0) i (cp 0)).ownBlock ∨ v1.ownBlock = some (wr.heap.size + 1)) →
          ∃ a c g, v1 = .slice a (i + 1) c ∧ (w1.frozen? ⟨R, 0, none⟩ = false ∧ w1.cell? ⟨R, 0, none⟩ = some (.slice (an 0) i (cp 0))) ∧ NS w (w1.setCell ⟨R, 0, none⟩ (.slice a (i + 1) c)) (fun _ => 0) (upA an 0 a) (upG ln 0 (i + 1)) (upG cp 0 c) (upG gb 0 g) := by
        intro v1 w1 ho hg hat
        rw [← l0] at ho hg hat
        rw [← size1 wr (.cells #[.slice none 0 0] 44)] at hat
        obtain ⟨a, c, g, e, hf, s2⟩ := s.push (q := 0) (by decide) (below_new wr (.cells #[.slice none 0 0] 44)) ho hg hat
        subst e
        rw [l0] at s2
        rw [HR.out]
        exact ⟨a, c, g, by rw [l0], by rw [← l0]; exact hf, s2⟩
      have FIN0 := Lib.hid hfin
      clear hfin s
      obtain ⟨i0, hi0, hz00, hz01, hz02⟩ := info_parts infoR44
      go_wp2_with (at_builtin; refine wpList_append_rd _ rfl (.tmp 17) (.tmp 18) 60 rfl w.heap.size 44 i0 _ 1 24 Try.underlying60 hi0 hz00 hz01 hz02 rfl (by decide) (.slice (an 0) i (cp 0)) i (List.replicate i (zzR 0)) rfl o0.out (some ⟨wr.heap.size, 0, none⟩) 1 1 _ rfl r0.out (by simp [Value.oneCell']) (by unfold maxLen; omega) (by omega) z0.out ?_)
      intro v1 w1 hown1 hgrow1 hat1 hnil1
      obtain ⟨a0, b0, g0, rfl, ⟨hf0, hc0⟩, s⟩ := FIN0.out v1 w1 hown1 hgrow1 hat1
      clear hown1 hgrow1 hat1 hnil1
      go_upto_region 6 with fail
      obtain ⟨an1, han1⟩ : ∃ an1, an1 = upA an 0 a0 := ⟨_, rfl⟩
      obtain ⟨ln1, hln1⟩ : ∃ ln1, ln1 = upG ln 0 (i + 1) := ⟨_, rfl⟩
      obtain ⟨cp1, hcp1⟩ : ∃ cp1, cp1 = upG cp 0 b0 := ⟨_, rfl⟩
      obtain ⟨gb1, hgb1⟩ : ∃ gb1, gb1 = upG gb 0 g0 := ⟨_, rfl⟩
      have m0 : ln1 0 = i + 1 := by rw [hln1]; exact rfl
      have m1 : ln1 1 = i := by rw [hln1]; exact l1
      have m2 : ln1 2 = i := by rw [hln1]; exact l2
      have m3 : ln1 3 = i := by rw [hln1]; exact l3
      rw [← han1, ← hln1, ← hcp1, ← hgb1] at s
      clear han1 hln1 hcp1 hgb1 l0 l1 l2 l3 c0 o0 r0 z0 FIN0
      have l0 := m0
      have l1 := m1
      have l2 := m2
      have l3 := m3
      clear m0 m1 m2 m3
      generalize w1.setCell ⟨R, 0, none⟩ (.slice a0 (i + 1) b0) = wx1 at *
      have c1 : wx1.cell? ⟨R, 1, none⟩ = some (.slice (an1 1) i (cp1 1)) := by rw [HR.out, ← l1]; exact s.row.cell (i := 1) (by decide)
      have o1 := Lib.hid ((s.own 1 (by decide)).own.alloc (.cells #[.int .i64 0] 3))
      rw [l1] at o1
      have r1 := Lib.hid (rd_new wx1 #[.int .i64 0] 3 1 1 rfl)
      have z1 := Lib.hid (Nat.le_trans s.bl.size (below_new wx1 (.cells #[.int .i64 0] 3)).size)
      have hfin : ∀ (v1 : Value) (w1 : World), w1.ownsRow w.heap.size 3 1 v1 (i + 1) (List.replicate i (zzR 1) ++ [.int .i64 0]) → (wx1.alloc (.cells #[.int .i64 0] 3)).grownBy w1 (Value.slice (an1 1) i (cp1 1)).ownBlock → (v1.ownBlock = (Value.slice (an1 1) i (cp1 1)).ownBlock ∨ v1.ownBlock = some (wx1.heap.size + 1)) →
          ∃ a c g, v1 = .slice a (i + 1) c ∧ (w1.frozen? ⟨R, 1, none⟩ = false ∧ w1.cell? ⟨R, 1, none⟩ = some (.slice (an1 1) i (cp1 1))) ∧ NS w (w1.setCell ⟨R, 1, none⟩ (.slice a (i + 1) c)) (fun _ => 0) (upA an1 1 a) (upG ln1 1 (i + 1)) (upG cp1 1 c) (upG gb1 1 g) := by
        intro v1 w1 ho hg hat
        rw [← l1] at ho hg hat
        rw [← size1 wx1 (.cells #[.int .i64 0] 3)] at hat
        obtain ⟨a, c, g, e, hf, s2⟩ := s.push (q := 1) (by decide) (below_new wx1 (.cells #[.int .i64 0] 3)) ho hg hat
        subst e
        rw [l1] at s2
        rw [HR.out]
        exact ⟨a, c, g, by rw [l1], by rw [← l1]; exact hf, s2⟩
      have FIN1 := Lib.hid hfin
      clear hfin s
      obtain ⟨i1, hi1, hz10, hz11, hz12⟩ := info_parts infoR3
      go_wp2_with (at_builtin; refine wpList_append_rd _ rfl (.tmp 26) (.tmp 27) 43 rfl w.heap.size 3 i1 _ 1 8 Try.underlying43 hi1 hz10 hz11 hz12 rfl (by decide) (.slice (an1 1) i (cp1 1)) i (List.replicate i (zzR 1)) rfl o1.out (some ⟨wx1.heap.size, 0, none⟩) 1 1 _ rfl r1.out (by simp [Value.oneCell']) (by unfold maxLen; omega) (by omega) z1.out ?_)
      intro v1 w1 hown1 hgrow1 hat1 hnil1
      obtain ⟨a1, b1, g1, rfl, ⟨hf1, hc1⟩, s⟩ := FIN1.out v1 w1 hown1 hgrow1 hat1
      clear hown1 hgrow1 hat1 hnil1
      go_upto_region 7 with fail
      obtain ⟨an2, han2⟩ : ∃ an2, an2 = upA an1 1 a1 := ⟨_, rfl⟩
      obtain ⟨ln2, hln2⟩ : ∃ ln2, ln2 = upG ln1 1 (i + 1) := ⟨_, rfl⟩
      obtain ⟨cp2, hcp2⟩ : ∃ cp2, cp2 = upG cp1 1 b1 := ⟨_, rfl⟩
      obtain ⟨gb2, hgb2⟩ : ∃ gb2, gb2 = upG gb1 1 g1 := ⟨_, rfl⟩
      have m0 : ln2 0 = i + 1 := by rw [hln2]; exact l0
      have m1 : ln2 1 = i + 1 := by rw [hln2]; exact rfl
      have m2 : ln2 2 = i := by rw [hln2]; exact l2
      have m3 : ln2 3 = i := by rw [hln2]; exact l3
      rw [← han2, ← hln2, ← hcp2, ← hgb2] at s
      clear han2 hln2 hcp2 hgb2 l0 l1 l2 l3 c1 o1 r1 z1 FIN1
      have l0 := m0
      have l1 := m1
      have l2 := m2
      have l3 := m3
      clear m0 m1 m2 m3
      generalize w1.setCell ⟨R, 1, none⟩ (.slice a1 (i + 1) b1) = wx2 at *
      have c2 : wx2.cell? ⟨R, 2, none⟩ = some (.slice (an2 2) i (cp2 2)) := by rw [HR.out, ← l2]; exact s.row.cell (i := 2) (by decide)
      have o2 := Lib.hid ((s.own 2 (by decide)).own.alloc (.cells #[.bool false] 4))
      rw [l2] at o2
      have r2 := Lib.hid (rd_new wx2 #[.bool false] 4 1 1 rfl)
      have z2 := Lib.hid (Nat.le_trans s.bl.size (below_new wx2 (.cells #[.bool false] 4)).size)
      have hfin : ∀ (v1 : Value) (w1 : World), w1.ownsRow w.heap.size 4 1 v1 (i + 1) (List.replicate i (zzR 2) ++ [.bool false]) → (wx2.alloc (.cells #[.bool false] 4)).grownBy w1 (Value.slice (an2 2) i (cp2 2)).ownBlock → (v1.ownBlock = (Value.slice (an2 2) i (cp2 2)).ownBlock ∨ v1.ownBlock = some (wx2.heap.size + 1)) →
          ∃ a c g, v1 = .slice a (i + 1) c ∧ (w1.frozen? ⟨R, 2, none⟩ = false ∧ w1.cell? ⟨R, 2, none⟩ = some (.slice (an2 2) i (cp2 2))) ∧ NS w (w1.setCell ⟨R, 2, none⟩ (.slice a (i + 1) c)) (fun _ => 0) (upA an2 2 a) (upG ln2 2 (i + 1)) (upG cp2 2 c) (upG gb2 2 g) := by
        intro v1 w1 ho hg hat
        rw [← l2] at ho hg hat
        rw [← size1 wx2 (.cells #[.bool false] 4)] at hat
        obtain ⟨a, c, g, e, hf, s2⟩ := s.push (q := 2) (by decide) (below_new wx2 (.cells #[.bool false] 4)) ho hg hat
        subst e
        rw [l2] at s2
        rw [HR.out]
        exact ⟨a, c, g, by rw [l2], by rw [← l2]; exact hf, s2⟩
      have FIN2 := Lib.hid hfin
      clear hfin s
      obtain ⟨i2, hi2, hz20, hz21, hz22⟩ := info_parts infoR4
      go_wp2_with (at_builtin; refine wpList_append_rd _ rfl (.tmp 35) (.tmp 36) 61 rfl w.heap.size 4 i2 _ 1 1 Try.underlying61 hi2 hz20 hz21 hz22 rfl (by decide) (.slice (an2 2) i (cp2 2)) i (List.replicate i (zzR 2)) rfl o2.out (some ⟨wx2.heap.size, 0, none⟩) 1 1 _ rfl r2.out (by simp [Value.oneCell']) (by unfold maxLen; omega) (by omega) z2.out ?_)
      intro v1 w1 hown1 hgrow1 hat1 hnil1
      obtain ⟨a2, b2, g2, rfl, ⟨hf2, hc2⟩, s⟩ := FIN2.out v1 w1 hown1 hgrow1 hat1
      clear hown1 hgrow1 hat1 hnil1
      go_upto_region 8 with fail
      obtain ⟨an3, han3⟩ : ∃ an3, an3 = upA an2 2 a2 := ⟨_, rfl⟩
      obtain ⟨ln3, hln3⟩ : ∃ ln3, ln3 = upG ln2 2 (i + 1) := ⟨_, rfl⟩
      obtain ⟨cp3, hcp3⟩ : ∃ cp3, cp3 = upG cp2 2 b2 := ⟨_, rfl⟩
      obtain ⟨gb3, hgb3⟩ : ∃ gb3, gb3 = upG gb2 2 g2 := ⟨_, rfl⟩
      have m0 : ln3 0 = i + 1 := by rw [hln3]; exact l0
      have m1 : ln3 1 = i + 1 := by rw [hln3]; exact l1
      have m2 : ln3 2 = i + 1 := by rw [hln3]; exact rfl
      have m3 : ln3 3 = i := by rw [hln3]; exact l3
      rw [← han3, ← hln3, ← hcp3, ← hgb3] at s
      clear han3 hln3 hcp3 hgb3 l0 l1 l2 l3 c2 o2 r2 z2 FIN2
      have l0 := m0
      have l1 := m1
      have l2 := m2
      have l3 := m3
      clear m0 m1 m2 m3
      generalize w1.setCell ⟨R, 2, none⟩ (.slice a2 (i + 1) b2) = wx3 at *
      have c3 : wx3.cell? ⟨R, 12, none⟩ = some (.slice (an3 3) i (cp3 3)) := by rw [HR.out, ← l3]; exact s.row.cell (i := 12) (by decide)
      have o3 := Lib.hid ((s.own 3 (by decide)).own.alloc (.cells #[.int .i64 0] 3))
      rw [l3] at o3
      have r3 := Lib.hid (rd_new wx3 #[.int .i64 0] 3 1 1 rfl)
      have z3 := Lib.hid (Nat.le_trans s.bl.size (below_new wx3 (.cells #[.int .i64 0] 3)).size)
      have hfin : ∀ (v1 : Value) (w1 : World), w1.ownsRow w.heap.size 3 1 v1 (i + 1) (List.replicate i (zzR 3) ++ [.int .i64 0]) → (wx3.alloc (.cells #[.int .i64 0] 3)).grownBy w1 (Value.slice (an3 3) i (cp3 3)).ownBlock → (v1.ownBlock = (Value.slice (an3 3) i (cp3 3)).ownBlock ∨ v1.ownBlock = some (wx3.heap.size + 1)) →
          ∃ a c g, v1 = .slice a (i + 1) c ∧ (w1.frozen? ⟨R, 12, none⟩ = false ∧ w1.cell? ⟨R, 12, none⟩ = some (.slice (an3 3) i (cp3 3))) ∧ NS w (w1.setCell ⟨R, 12, none⟩ (.slice a (i + 1) c)) (fun _ => 0) (upA an3 3 a) (upG ln3 3 (i + 1)) (upG cp3 3 c) (upG gb3 3 g) := by
        intro v1 w1 ho hg hat
        rw [← l3] at ho hg hat
        rw [← size1 wx3 (.cells #[.int .i64 0] 3)] at hat
        obtain ⟨a, c, g, e, hf, s2⟩ := s.push (q := 3) (by decide) (below_new wx3 (.cells #[.int .i64 0] 3)) ho hg hat
        subst e
        rw [l3] at s2
        rw [HR.out]
        exact ⟨a, c, g, by rw [l3], by rw [← l3]; exact hf, s2⟩
      have FIN3 := Lib.hid hfin
      clear hfin s
      obtain ⟨i3, hi3, hz30, hz31, hz32⟩ := info_parts infoR3
      go_wp2_with (at_builtin; refine wpList_append_rd _ rfl (.tmp 44) (.tmp 45) 43 rfl w.heap.size 3 i3 _ 1 8 Try.underlying43 hi3 hz30 hz31 hz32 rfl (by decide) (.slice (an3 3) i (cp3 3)) i (List.replicate i (zzR 3)) rfl o3.out (some ⟨wx3.heap.size, 0, none⟩) 1 1 _ rfl r3.out (by simp [Value.oneCell']) (by unfold maxLen; omega) (by omega) z3.out ?_)
      intro v1 w1 hown1 hgrow1 hat1 hnil1
      obtain ⟨a3, b3, g3, rfl, ⟨hf3, hc3⟩, s⟩ := FIN3.out v1 w1 hown1 hgrow1 hat1
      clear hown1 hgrow1 hat1 hnil1
      go_wp2_with fail
      go_roundw
      case rel => exact ⟨i + 1, _, _, _, _, by omega, by go_num, s, fun q hq => by rcases (show q = 0 ∨ q = 1 ∨ q = 2 ∨ q = 3 by omega) with h | h | h | h <;> subst h; exact l0; exact l1; exact l2; rfl⟩
      case measure => simp [intOf]; omega
    · have hin : i = n := by omega
      subst hin
      go_wp2_with fail
      go_loopw [5] (fun v wx => ∃ (k : Nat) (hd : Nat → Int), k ≤ 8 ∧ v = .int .i64 k ∧ NS w wx hd an ln cp gb ∧ ∀ j, j < k → hd j = -1) (fun v _ => 8 - (intOf v).toNat)
      case atStart => exact ⟨0, _, Nat.zero_le _, rfl, s, fun j hj => absurd hj (Nat.not_lt_zero j)⟩
      case round =>
        clear s
        obtain ⟨k, hd, hk, rfl, s, hh⟩ := hrel
        by_cases hk8 : k < 8
        · have ck : wr.cell? ⟨R, 3 + k, none⟩ = some (newF hd an ln cp (3 + k)) := by rw [HR.out]; exact s.row.cell (i := 3 + k) (by omega)
          have fk : wr.frozen? ⟨R, 3 + k, none⟩ = false := by rw [HR.out]; exact s.row.frozen (3 + k)
          have s2 := Lib.hid (s.hold hk8 (-1))
          have HH := Lib.hid hh
          clear s hh
          go_wp2_with fail
          go_roundw
          case rel =>
            refine ⟨k + 1, _, by omega, by go_num, by rw [HR.out]; exact s2.out, fun j hj => ?_⟩
            unfold Lk.upd
            by_cases e : j = k
            · rw [if_pos e]
            · rw [if_neg e]; exact HH.out j (by omega)
          case measure => simp [intOf]; omega
        · have hk2 : k = 8 := by omega
          have S2 := Lib.hid s
          have HH := Lib.hid hh
          clear s hh l0 l1 l2 l3
          go_wp2_with fail
          go_ret
          exact ⟨hd, an, ln, cp, gb, (show Ending.returned (ptr R) = .returned (ptr w.heap.size) by rw [HR.out]), S2.out, fun q hq => hln q hq, fun j hj => HH.out j (by omega)⟩
end Go.Proofs.Ytjobdncikpnojaa

