/-
  The clock in memory, and the walks of New, none, Len, Has.
-/
import Derived.Test.YthgajdaiklfjhaaRows
import Derived.Test.YthgajdaiklfjhaaPlain
import Derived.Test.YthgajdaiklfjhaaRing
import Derived.StillTailTactics
import Derived.Deep.RegionHeld3
namespace Go.Proofs.Ythgajdaiklfjhaa
open Go.RowKit

def encI (x : Int) : Value := .int .i64 x
def kdI (x : Int) : Prop := (Lit.int .i64 x).wf = true
theorem KI : KeyEnc Try.prog 3 encI kdI := ⟨Go.Maps.int_keyed Try.underlying3, fun x hx => ⟨_, Go.Maps.keyOf_int_mk Try.underlying3 hx⟩, fun x y h => by unfold encI at h; simpa using h⟩
def encM (m : Mk) : Value := .agg #[.bool m.1, .bool m.2]
def mapC (L : Rg) : Int → Option Value := fun f => (markO L f).map encM
def topC (a : Option Addr) (n c b : Nat) (i : Nat) : Value := if i = 0 then .slice a n c else .map (some b)
/-- The clock at D, its ring at g, its marks at b. -/
structure CK (w : World) (base D b : Nat) (a : Option Addr) (n c g o : Nat) (L : Rg) : Prop where
  srow : w.rowIs D 50 2 (topC a n c b)
  ring : RingAt w base 3 a n c g o (L.map Prod.fst)
  map : MapAt encI kdI w b (mapC L)
  mb : base ≤ b
  ok : OkC L
  gb : a = none → g = b
/-- New blocks; D, g and b may have turned. -/
structure Tri (w w' : World) (D g b : Nat) : Prop where
  os : w'.os = w.os
  tape : w'.tape = w.tape
  output : w'.output = w.output
  size : w.heap.size ≤ w'.heap.size
  block : ∀ i, i < w.heap.size → i ≠ D → i ≠ g → i ≠ b → w'.heap[i]? = w.heap[i]?
theorem tri_refl (w : World) (D g b : Nat) : Tri w w D g b := ⟨rfl, rfl, rfl, Nat.le_refl _, fun _ _ _ _ _ => rfl⟩
theorem tri_trans {a w w' : World} {D g b : Nat} (h : Tri a w D g b) {g' : Nat} (k : Tri w w' D g' b) (hg : g' = g ∨ a.heap.size ≤ g') : Tri a w' D g b :=
  ⟨k.os.trans h.os, k.tape.trans h.tape, k.output.trans h.output, Nat.le_trans h.size k.size, fun i hi h1 h2 h3 => (k.block i (Nat.lt_of_lt_of_le hi h.size) h1 (by rcases hg with rfl | hg; exact h2; omega) h3).trans (h.block i hi h1 h2 h3)⟩
theorem tri_only {w w' : World} {D g b d : Nat} (k : Only w w' d) (hd : d = D ∨ d = g ∨ d = b) : Tri w w' D g b :=
  ⟨k.os, k.tape, k.output, k.size, fun i hi h1 h2 h3 => k.block i hi (fun e => by cases e; rcases hd with rfl | rfl | rfl <;> contradiction)⟩
theorem tri_below {w w' : World} (k : Below w.heap.size w w') (D g b : Nat) : Tri w w' D g b := ⟨k.os, k.tape, k.output, k.size, fun i hi _ _ _ => k.block i hi⟩
theorem below_tri {w0 w w' : World} {D g b : Nat} (h : Below w0.heap.size w0 w) (k : Tri w w' D g b) (hD : w0.heap.size ≤ D) (hg : w0.heap.size ≤ g) (hb : w0.heap.size ≤ b) : Below w0.heap.size w0 w' :=
  ⟨k.os.trans h.os, k.tape.trans h.tape, k.output.trans h.output, Nat.le_trans h.size k.size, fun i hi => (k.block i (Nat.lt_of_lt_of_le hi h.size) (by omega) (by omega) (by omega)).trans (h.block i hi)⟩
section
variable {w w' : World} {base D b n c g o : Nat} {a : Option Addr} {L : Rg}
theorem CK.s0 (s : CK w base D b a n c g o L) : w.cell? ⟨D, 0, none⟩ = some (.slice a n c) := s.srow.cell (i := 0) (by omega)
theorem CK.s1 (s : CK w base D b a n c g o L) : w.cell? ⟨D, 1, none⟩ = some (.map (some b)) := s.srow.cell (i := 1) (by omega)
theorem CK.ltb (s : CK w base D b a n c g o L) : base ≤ b ∧ b < w.heap.size := ⟨s.mb, s.map.lt⟩
theorem CK.ltg (s : CK w base D b a n c g o L) : base ≤ g ∧ g < w.heap.size := by
  by_cases ha : a = none
  · rw [s.gb ha]; exact s.ltb
  · exact s.ring.lt ha
theorem CK.neb (s : CK w base D b a n c g o L) : b ≠ D := s.map.ne_row s.srow
theorem CK.neg (s : CK w base D b a n c g o L) : g ≠ D := by
  by_cases ha : a = none
  · rw [s.gb ha]; exact s.neb
  · exact s.ring.ne s.srow (by decide) ha
theorem CK.nebg (s : CK w base D b a n c g o L) (ha : a ≠ none) : b ≠ g := by
  rintro rfl
  obtain ⟨cs, h1, _⟩ := s.ring.blk ha
  obtain ⟨es, ck, h2, _⟩ := s.map
  rw [h1] at h2; cases h2
theorem CK.len (s : CK w base D b a n c g o L) : L.length = n := by have := s.ring.len; simpa using this
theorem CK.of_blocks (s : CK w base D b a n c g o L) (h1 : w'.heap[D]? = w.heap[D]?) (h2 : w'.heap[g]? = w.heap[g]?) (h3 : w'.heap[b]? = w.heap[b]?) : CK w' base D b a n c g o L :=
  ⟨s.srow.of_block h1, s.ring.of_block (fun _ => h2), s.map.of_block h3, s.mb, s.ok, s.gb⟩
theorem CK.below (s : CK w base D b a n c g o L) (k : Below w.heap.size w w') : CK w' base D b a n c g o L := s.of_blocks (k.block D s.srow.lt) (k.block g s.ltg.2) (k.block b s.ltb.2)
theorem CK.only (s : CK w base D b a n c g o L) {d : Nat} (k : Only w w' d) (h : D ≠ d ∧ g ≠ d ∧ b ≠ d) : CK w' base D b a n c g o L :=
  s.of_blocks (k.block D s.srow.lt (fun e => h.1 (by cases e; rfl))) (k.block g s.ltg.2 (fun e => h.2.1 (by cases e; rfl))) (k.block b s.ltb.2 (fun e => h.2.2 (by cases e; rfl)))
theorem CK.tri (s : CK w base D b a n c g o L) {D' g' b' : Nat} (k : Tri w w' D' g' b') (h : ∀ d, d = D' ∨ d = g' ∨ d = b' → D ≠ d ∧ g ≠ d ∧ b ≠ d) : CK w' base D b a n c g o L :=
  s.of_blocks (k.block D s.srow.lt (h D' (.inl rfl)).1 (h g' (.inr (.inl rfl))).1 (h b' (.inr (.inr rfl))).1) (k.block g s.ltg.2 (h D' (.inl rfl)).2.1 (h g' (.inr (.inl rfl))).2.1 (h b' (.inr (.inr rfl))).2.1)
    (k.block b s.ltb.2 (h D' (.inl rfl)).2.2 (h g' (.inr (.inl rfl))).2.2 (h b' (.inr (.inr rfl))).2.2)
theorem zero55 (W : World) : (zeroValue 55).run Try.prog W = .ok (encM (false, false)) W := by kernel_rfl
theorem CK.look (s : CK w base D b a n c g o L) {f : Int} (hf : kdI f) (W : World) (hW : W.heap = w.heap) (ok : Bool) :
    (Instr.lookup 48 (.map (some b)) (.int .i64 f) ok).run Try.prog W = .ok (if ok then .tuple #[((markO L f).map encM).getD (encM (false, false)), .bool (markO L f).isSome] else ((markO L f).map encM).getD (encM (false, false))) W := by
  have := (s.map.of_block (w' := W) (by rw [hW])).look KI (t := 48) (e := 55) Try.underlying48 (z := encM (false, false)) zero55 hf ok
  rw [encI] at this
  rw [this]
  simp [mapC]
end
theorem wf64 {i : Int} (h1 : -9223372036854775808 ≤ i) (h2 : i ≤ 9223372036854775807) : (Lit.int .i64 i).wf = true := by
  have e1 : IntKind.i64.min = -9223372036854775808 := by decide
  have e2 : IntKind.i64.max = 9223372036854775807 := by decide
  show (decide (IntKind.i64.min ≤ i) && decide (i ≤ IntKind.i64.max)) = true
  rw [e1, e2]
  simp; omega

def newC (w : World) : World := (w.alloc (.map #[] 0)).alloc (.cells #[.slice none 0 0, .map (some w.heap.size)] 50)
theorem ck_new {w0 : World} (w : World) (hb : w0.heap.size ≤ w.heap.size) : CK (newC w) w0.heap.size (w.heap.size + 1) w.heap.size none 0 0 w.heap.size 0 [] where
  srow := by
    have h := World.rowIs_alloc (w.alloc (.map #[] 0)) #[.slice none 0 0, .map (some w.heap.size)] 50 (topC none 0 0 w.heap.size) (fun i hi => by
      rcases (show i = 0 ∨ i = 1 by simp at hi; omega) with rfl | rfl <;> rfl)
    simpa [newC] using h
  ring := RingAt.nil _ _ _ _ _
  map := (map_new (enc := encI) (Kd := kdI) w).below (below_new _ (.cells #[.slice none 0 0, .map (some w.heap.size)] 50))
  mb := hb
  ok := okC_nil
  gb := fun _ => rfl
theorem below_newC (w : World) : Below w.heap.size w (newC w) := below_alloc (below_new _ _) _
theorem run_mm (W : World) : (Instr.makeMap 48 none).run Try.prog W = .ok (.map (some W.heap.size)) (W.alloc (.map #[] 0)) := @run_makeMap Try.prog _ _
theorem new_any (w : World) : Calls Try.prog 10 #[] w fun e w' => e = .returned (.pointer (some ⟨w.heap.size + 1, 0, none⟩)) ∧ w' = newC w := by
  have hm := run_mm
  go_enter Try.func10, Try.ntmps10
  go_wp2
  go_ret
  exact ⟨rfl, rfl⟩
theorem map_neq (b : Nat) (W : World) : (binOp .eql 48 (.map (some b)) (.map none)).run Try.prog W = .ok (.bool false) W := by kernel_rfl
section
variable {w w' : World} {base D b n c g o : Nat} {a : Option Addr} {L : Rg}
theorem none_any (s : CK w base D b a n c g o L) : Calls Try.prog 25 #[.pointer (some ⟨D, 0, none⟩)] w fun e w' => e = .returned (.bool false) ∧ w = w' := by
  have s1 := s.s1
  have hm := map_neq b
  clear s
  go_enter Try.func25, Try.ntmps25
  go_wp2
  go_ret
  exact ⟨rfl, rfl⟩
theorem len_any (s : CK w base D b a n c g o L) : Calls Try.prog 15 #[.pointer (some ⟨D, 0, none⟩)] w fun e w' => e = .returned (.int .i64 n) ∧ w = w' := by
  have s0 := s.s0
  have hl := s.ring.le
  go_enter Try.func15, Try.ntmps15
  go_wp2_with (go_at_call 25; refine (none_any s).mono ?_; rintro e w' ⟨rfl, rfl⟩)
  go_ret
  exact ⟨rfl, rfl⟩
theorem has_any (s : CK w base D b a n c g o L) {f : Int} (hf : kdI f) : Calls Try.prog 16 #[.pointer (some ⟨D, 0, none⟩), .int .i64 f] w fun e w' => e = .returned (.bool (hasC L f)) ∧ Below w.heap.size w w' := by
  have s1 := s.s1
  have hl := s.look hf w rfl true
  have hk := markO_isSome s.ok f
  cases hm : markO L f with
  | none =>
    rw [hm] at hl hk
    have hk' : hasC L f = false := by rw [← hk]; rfl
    rw [hk']
    simp only [Option.map_none, Option.getD_none, Option.isSome_none, if_true, encM] at hl
    clear hk hm hk'
    go_enter Try.func16, Try.ntmps16
    go_wp2_with (go_at_call 25; refine (none_any s).mono ?_; rintro e w' ⟨rfl, rfl⟩)
    go_ret
    exact ⟨rfl, below_new _ _⟩
  | some m =>
    rw [hm] at hl hk
    have hk' : hasC L f = true := by rw [← hk]; rfl
    rw [hk']
    simp only [Option.map_some, Option.getD_some, Option.isSome_some, if_true, encM] at hl
    clear hk hm hk'
    go_enter Try.func16, Try.ntmps16
    go_wp2_with (go_at_call 25; refine (none_any s).mono ?_; rintro e w' ⟨rfl, rfl⟩)
    go_ret
    exact ⟨rfl, below_new _ _⟩
end
end Go.Proofs.Ythgajdaiklfjhaa
