/-
  The two devices side by side; what may be written over.
-/
import Derived.Test.YtlgbdpdghgmmoaaRef
namespace Go.Proofs.Ytlgbdpdghgmmoaa
open Go.RowKit

/-- The device, and the document's, made by the call. -/
structure PSt (w0 w : World) (D B R X n cap : Nat) (f : Slots) (S : Nat → ByteArray) : Prop where
  st : St w0 w D B n cap f
  ref : Ref w R X n S
  ownR : w0.heap.size ≤ R
  ownX : w0.heap.size ≤ X
  neXB : X ≠ B
  neXD : X ≠ D
  neRB : R ≠ B
  rel : RelS n f S
  u8 : U8 n f
section
variable {w0 w w' : World} {D B R X n cap : Nat} {f : Slots} {S : Nat → ByteArray}
theorem PSt.below (s : PSt w0 w D B R X n cap f S) (h : Below w.heap.size w w') : PSt w0 w' D B R X n cap f S :=
  ⟨s.st.belowW h, s.ref.below h, s.ownR, s.ownX, s.neXB, s.neXD, s.neRB, s.rel, s.u8⟩
/-- A block that nobody has turned. -/
theorem PSt.fresh (s : PSt w0 w D B R X n cap f S) {g : Nat} (o : Only w w' g) (h0 : w0.heap.size ≤ g) (hD : D ≠ g) (hB : B ≠ g) (hR : R ≠ g) (hX : X ≠ g) : PSt w0 w' D B R X n cap f S :=
  ⟨s.st.only o h0 hD hB, s.ref.only o hR hX, s.ownR, s.ownX, s.neXB, s.neXD, s.neRB, s.rel, s.u8⟩
theorem PSt.lts (s : PSt w0 w D B R X n cap f S) : D < w.heap.size ∧ B < w.heap.size ∧ R < w.heap.size ∧ X < w.heap.size ∧ w0.heap.size ≤ w.heap.size :=
  ⟨s.st.dev.ltD, s.st.dev.ltB, s.ref.ltR, s.ref.row.lt, s.st.below.size⟩

/-- The device's write, the document's not yet. -/
theorem PSt.write1 (s : PSt w0 w D B R X n cap f S) (i : Int) {a : Option Addr} {len cp b off : Nat} {L : List Int} (o : BytesAt w a len cp b off L) (hlen : len ≤ 9223372036854775807) (fail : Bool) :
    Calls Try.prog 10 #[.pointer (some ⟨D, 0, none⟩), .int .i64 i, .slice a len cp, .bool fail] w fun e w' =>
      e = .returned (.int .i64 (writeF n f i L fail).1) ∧ St w0 w' D B n cap (writeF n f i L fail).2 ∧ Ref w' R X n S ∧ Only w w' B := by
  refine (write_any s.st.dev i o hlen fail).mono ?_
  rintro e w' ⟨rfl, d, on⟩
  exact ⟨rfl, ⟨d, below_only s.st.below on s.st.own, s.st.own, s.st.ownD⟩, s.ref.only on s.neRB s.neXB, on⟩
theorem write2 (s : PSt w0 w D B R X n cap f S) (i : Int) {L : List Int} (fail : Bool) (hu : ∀ x ∈ L, 0 ≤ x ∧ x ≤ 255) {w1 : World}
    (t : St w0 w1 D B n cap (writeF n f i L fail).2) (r : Ref w1 R X n S) {a : Option Addr} {len cp b off : Nat} (o : BytesAt w1 a len cp b off L) (hlen : len ≤ 9223372036854775807) :
    Calls Try.prog 16 #[.pointer (some ⟨R, 0, none⟩), .int .i64 i, .slice a len cp, .bool fail] w1 fun e w' =>
      e = .returned (.int .i64 (writeF n f i L fail).1) ∧ PSt w0 w' D B R X n cap (writeF n f i L fail).2 (writeS n S i L fail) ∧ Only w1 w' X := by
  refine (ref_write r f i o hlen fail).mono ?_
  rintro e w' ⟨rfl, r', on⟩
  exact ⟨rfl, ⟨t.only on s.ownX s.neXD.symm s.neXB.symm, r', s.ownR, s.ownX, s.neXB, s.neXD, s.neRB, relS_write s.rel i L fail, u8_write s.u8 i hu fail⟩, on⟩
end

theorem conv_any {w w' : World} {a : Option Addr} {len cap b off : Nat} {L : List Int} (o : BytesAt w a len cap b off L) (hb : 0 < len → w'.heap[b]? = w.heap[b]?) :
    (convert 22 9 (.slice a len cap)).run Try.prog w' = .ok (.string (strOfNums L)) w' := by
  by_cases h : 0 < len
  · obtain rfl := o.at_ h
    exact conv_at o (hb h)
  · obtain rfl : len = 0 := by omega
    have hL := o.len_
    obtain rfl : L = [] := List.eq_nil_of_length_eq_zero hL
    rw [run_convert_bytes_string w' 22 9 5 _ 0 cap Try.underlying22 Try.underlying5 Try.underlying9]
    cases a <;> simp [Conv.bytesToString, loadCells]
    all_goals rfl

/-- The bytes of a call. -/
def bytesL (p : Op1) : List Int := if p.short || decide (256 < p.n) then p.L else pad p.L
theorem bytesL_u8 {p : Op1} (h : ∀ x ∈ p.L, 0 ≤ x ∧ x ≤ 255) : ∀ x ∈ bytesL p, 0 ≤ x ∧ x ≤ 255 := by
  unfold bytesL
  split
  · exact h
  · exact pad_u8 h
theorem bytes_any {w : World} (p : Op1) (o : BytesAt w p.a p.n p.c p.b p.o p.L) (h600 : p.n ≤ 600) :
    Calls Try.prog 15 #[.agg #[.int .i64 p.kind, .int .i64 p.slot, .slice p.a p.n p.c, .bool p.short, .bool p.fail]] w fun e w' => ∃ a len c b off, e = .returned (.slice a len c) ∧ BytesAt w' a len c b off (bytesL p) ∧ len ≤ 600 ∧ Below w.heap.size w w' := by
  obtain ⟨kind, slot, a, n, c, b, off, L, short, fail⟩ := p
  dsimp only at o h600
  have o' : ∀ x, BytesAt (w.alloc x) a n c b off L := fun x => o.below ((Below.refl _ _).alloc (Nat.le_refl _) x)
  have hb : ∀ x, Below w.heap.size w (w.alloc x) := fun x => (Below.refl _ _).alloc (Nat.le_refl _) x
  cases short with
  | true =>
    have e : bytesL ⟨kind, slot, a, n, c, b, off, L, true, fail⟩ = L := rfl
    rw [e]; clear e
    go_enter Try.func15, Try.ntmps15
    go_wp2_with fail
    go_ret
    exact ⟨_, _, _, _, _, rfl, o' _, h600, hb _⟩
  | false =>
    by_cases h : 256 < n
    · have e : bytesL ⟨kind, slot, a, n, c, b, off, L, false, fail⟩ = L := by simp [bytesL, h]
      rw [e]; clear e
      go_enter Try.func15, Try.ntmps15
      go_wp2_with fail
      go_ret
      exact ⟨_, _, _, _, _, rfl, o' _, h600, hb _⟩
    · have e : bytesL ⟨kind, slot, a, n, c, b, off, L, false, fail⟩ = pad L := by simp [bytesL, h]
      rw [e]; clear e
      go_enter Try.func15, Try.ntmps15
      go_wp2_with fail
      refine (page_any a n c b off L _ (o' _) (by omega)).mono ?_
      rintro e w' ⟨g, cp, rfl, hc, hg, hr, _, hbel⟩
      have hp := pad_len (L := L) (by rw [o.len_]; omega)
      have := hr.bytes (pad_u8 o.u8) (cap := cp) (by rw [hp]; exact hc)
      rw [hp] at this
      go_wp2_with fail
      go_ret
      exact ⟨_, _, _, _, _, rfl, this, by omega, below_then (hb _) hbel⟩

theorem one_new {w : World} {b o : Nat} {p : Op1} (h : OneOp w b o p) : OneOp (w.alloc (.cells #[.int .i64 p.kind, .int .i64 p.slot, .slice p.a p.n p.c, .bool p.short, .bool p.fail] 36)) w.heap.size 0 p :=
  ⟨by rw [World.cell?_alloc_new]; rfl, by rw [World.cell?_alloc_new]; rfl, by rw [World.cell?_alloc_new]; rfl, by rw [World.cell?_alloc_new]; rfl, by rw [World.cell?_alloc_new]; rfl,
    h.bytes.below ((Below.refl _ _).alloc (Nat.le_refl _) _), h.le⟩
theorem OneOp.only {w w' : World} {b o g : Nat} {p : Op1} (h : OneOp w b o p) (on : Only w w' g) (h1 : b ≠ g) (h2 : 0 < p.n → p.b ≠ g) : OneOp w' b o p := by
  have hb := on.block b (World.block_lt_of_cell? w _ h.c0) (fun e => h1 (by cases e; rfl))
  refine ⟨(World.cell?_of_block (w := w) hb).trans h.c0, (World.cell?_of_block (w := w) hb).trans h.c1, (World.cell?_of_block (w := w) hb).trans h.c2, (World.cell?_of_block (w := w) hb).trans h.c3, (World.cell?_of_block (w := w) hb).trans h.c4, ?_, h.le⟩
  exact ⟨h.bytes.nil, h.bytes.at_, fun hl => Nat.lt_of_lt_of_le (h.bytes.lt hl) on.size, h.bytes.le, h.bytes.len_, fun i hi => (World.cell?_of_block (w := w) (on.block p.b (h.bytes.lt (by omega)) (fun e => h2 (by omega) (by cases e; rfl)))).trans (h.bytes.cell i hi), h.bytes.u8⟩
/-- An own row of bytes that is not nil. -/
theorem fresh_of_own {w0 w : World} {base n : Nat} {v : Value} {L : List Int} (h : w.ownsRow base 5 1 v n (L.map (Value.int .u8))) (hb0 : w0.heap.size ≤ base) (hv : v ≠ .slice none 0 0) (hl : L.length = n) (hu : ∀ x ∈ L, 0 ≤ x ∧ x ≤ 255) :
    ∃ g cap, v = .slice (some ⟨g, 0, none⟩) n cap ∧ base ≤ g ∧ g < w.heap.size ∧ Fresh w0 w (some ⟨g, 0, none⟩) n cap g L := by
  have hcells := @World.ownsRow.cells _ _ _ _ _ _ _ h
  have hlt := h.lt
  rcases h.2 with ⟨rfl, hn⟩ | ⟨g, cap, cur, rfl, hb, hg, hc, hm, _⟩
  · exact absurd rfl hv
  · have hadd : ∀ k, (⟨g, 0, none⟩ : Addr).add k = ⟨g, k, none⟩ := fun k => by unfold Addr.add; split <;> simp_all
    refine ⟨g, cap, rfl, hb, (hlt g rfl).2, ⟨⟨fun h => (by cases h), fun _ => rfl, fun _ => (hlt g rfl).2, hc, hl, fun i hi => ?_, hu⟩, Nat.le_trans hb0 hb, fun _ j hj => by simp [World.frozen?, hg]⟩⟩
    have := hcells (g := g) rfl i (.int .u8 (L.getD i 0)) (by simp [List.getD, show i < L.length by omega])
    rw [hadd] at this
    rw [Nat.zero_add]
    exact this
/-- The empty row, later. -/
theorem own_later {w w' : World} (hb : Below (w.alloc (.cells #[] 5)).heap.size (w.alloc (.cells #[] 5)) w') : w'.ownsRow w.heap.size 5 1 (.slice (some ⟨w.heap.size, 0, none⟩) 0 0) 0 [] :=
  ⟨by simp, .inr ⟨w.heap.size, 0, #[], rfl, Nat.le_refl _, (hb.block w.heap.size (by simp)).trans (heap_alloc_new w _), Nat.zero_le _, by unfold maxLen; omega, rfl, by simp⟩⟩

/-- A slice of bytes that is written over, one by one. -/
structure Scr (W wr : World) (a : Option Addr) (len cap g : Nat) : Prop where
  only : Only W wr g
  bytes : ∃ L, BytesAt wr a len cap g 0 L
  soft : ∀ j, j < len → wr.frozen? ⟨g, j, none⟩ = false
theorem Scr.set {W wr : World} {a : Option Addr} {len cap g : Nat} (s : Scr W wr a len cap g) {j : Nat} (hj : j < len) {v : Int} (h0 : 0 ≤ v) (h1 : v ≤ 255) : Scr W (wr.setCell ⟨g, j, none⟩ (.int .u8 v)) a len cap g := by
  obtain ⟨L, o⟩ := s.bytes
  refine ⟨⟨s.only.os, s.only.tape, s.only.output, by simpa [World.setCell] using s.only.size, fun i hi hne => (Below.heap_setCell wr _ _ i (by rintro rfl; exact hne rfl)).trans (s.only.block i hi hne)⟩, ⟨L.set j v, o.nil, o.at_, fun h => by simpa [World.setCell] using o.lt h, o.le, by rw [List.length_set]; exact o.len_, fun i hi => ?_, fun x hx => ?_⟩, fun i hi => by rw [World.frozen?_setCell]; exact s.soft i hi⟩
  · rw [Nat.zero_add]
    have hl := o.len_
    have hc : wr.cell? ⟨g, i, none⟩ = some (.int .u8 (L.getD i 0)) := by have := o.cell i hi; rwa [Nat.zero_add] at this
    by_cases e : i = j
    · subst e
      rw [World.cell?_setCell_same' _ _ _ (by rw [hc]; rfl)]
      simp [List.getD, hl, hi]
    · rw [World.cell?_setCell_other (h := fun h => e (congrArg Addr.off h).symm), hc]
      simp [List.getD, List.getElem?_set, Ne.symm e]
  · rcases List.mem_or_eq_of_mem_set hx with h | h
    · exact o.u8 x h
    · omega
theorem Fresh.scr {W w : World} {a : Option Addr} {len cap g : Nat} {L : List Int} (h : Fresh W w a len cap g L) : Scr w w a len cap g :=
  ⟨only_refl _ _, ⟨L, h.bytes⟩, fun j hj => h.soft (by omega) j hj⟩
theorem Scr.cell {W wr : World} {a : Option Addr} {len cap g : Nat} (s : Scr W wr a len cap g) {j : Nat} (hj : j < len) : ∃ x : Int, 0 ≤ x ∧ x ≤ 255 ∧ wr.cell? ⟨g, j, none⟩ = some (.int .u8 x) := by
  obtain ⟨L, o⟩ := s.bytes
  have hl := o.len_
  have hc := o.cell j hj
  rw [Nat.zero_add] at hc
  have := o.u8 (L.getD j 0) (by simp [List.getD, show j < L.length by omega])
  exact ⟨_, this.1, this.2, hc⟩
theorem Fresh.only {w0 w w' : World} {a : Option Addr} {len cap g B : Nat} {L : List Int} (h : Fresh w0 w a len cap g L) (on : Only w w' B) (hne : g ≠ B) : Fresh w0 w' a len cap g L :=
  ⟨h.bytes.only on hne, h.own, fun hl j hj => (World.frozen?_of_block (w := w) (on.block g (h.bytes.lt hl) (fun e => hne (by cases e; rfl)))).trans (h.soft hl j hj)⟩
theorem Fresh.below {w0 w w' : World} {a : Option Addr} {len cap g : Nat} {L : List Int} (h : Fresh w0 w a len cap g L) (hb : Below w.heap.size w w') : Fresh w0 w' a len cap g L :=
  ⟨h.bytes.below hb, h.own, fun hl j hj => (World.frozen?_of_block (w := w) (hb.block g (h.bytes.lt hl))).trans (h.soft hl j hj)⟩
end Go.Proofs.Ytlgbdpdghgmmoaa
