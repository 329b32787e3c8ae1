/-
  The document's device in memory, and the walks of its methods.
-/
import Derived.Test.YtlgbdpdghgmmoaaCopies
import Derived.Laws.IdiomStrings
import Derived.Lib.Bytes
namespace Go.Proofs.Ytlgbdpdghgmmoaa
open Go.RowKit

/-- The document's device of n slots: R: its struct; X: its slots' strings. -/
structure Ref (w : World) (R X n : Nat) (S : Nat → ByteArray) : Prop where
  r0 : w.cell? ⟨R, 0, none⟩ = some (.int .i64 (n : Int))
  r1 : w.cell? ⟨R, 1, none⟩ = some (.slice (some ⟨X, 0, none⟩) n n)
  ne : R ≠ X
  row : w.rowIs X 9 n (fun j => .string (S j))
  le : n ≤ 1024
theorem Ref.ltR {w : World} {R X n : Nat} {S : Nat → ByteArray} (r : Ref w R X n S) : R < w.heap.size := World.block_lt_of_cell? w _ r.r0
theorem Ref.of_blocks {w w' : World} {R X n : Nat} {S : Nat → ByteArray} (r : Ref w R X n S) (hR : w'.heap[R]? = w.heap[R]?) (hX : w'.heap[X]? = w.heap[X]?) : Ref w' R X n S :=
  ⟨(World.cell?_of_block (w := w) hR).trans r.r0, (World.cell?_of_block (w := w) hR).trans r.r1, r.ne, r.row.of_block hX, r.le⟩
theorem Ref.below {w w' : World} {R X n : Nat} {S : Nat → ByteArray} (r : Ref w R X n S) (h : Below w.heap.size w w') : Ref w' R X n S :=
  r.of_blocks (h.block R r.ltR) (h.block X r.row.lt)
theorem Ref.only {w w' : World} {R X n g : Nat} {S : Nat → ByteArray} (r : Ref w R X n S) (o : Only w w' g) (h1 : R ≠ g) (h2 : X ≠ g) : Ref w' R X n S :=
  r.of_blocks (o.block R r.ltR (fun e => h1 (by cases e; rfl))) (o.block X r.row.lt (fun e => h2 (by cases e; rfl)))
theorem Ref.store {w : World} {R X n : Nat} {S : Nat → ByteArray} (r : Ref w R X n S) (k : Nat) (v : ByteArray) : Ref (w.setCell ⟨X, k, none⟩ (.string v)) R X n (updB S k v) :=
  ⟨by rw [World.cell?_setCell_other (h := fun e => r.ne (congrArg Addr.block e).symm)]; exact r.r0, by rw [World.cell?_setCell_other (h := fun e => r.ne (congrArg Addr.block e).symm)]; exact r.r1, r.ne,
    (r.row.set k _).congr (fun i _ => by unfold updB; split <;> rfl), r.le⟩

theorem ref_new (n : Int) (w : World) :
    Calls Try.prog 13 #[.int .i64 n] w fun e w' => e = .returned (.pointer (some ⟨w.heap.size + 1, 0, none⟩)) ∧ Ref w' (w.heap.size + 1) w.heap.size (clampN n) (fun _ => ByteArray.empty) ∧ Below w.heap.size w w' := by
  have fin : ∀ m : Nat, m ≤ 1024 → Ref ((w.alloc (.cells (madeCells #[.string ByteArray.empty] m) 9)).alloc (.cells #[.int .i64 (m : Int), .slice (some ⟨w.heap.size, 0, none⟩) m m] 42)) (w.heap.size + 1) w.heap.size m (fun _ => ByteArray.empty) := fun m hm =>
    ⟨by go_simp, by go_simp, by omega, (World.rowIs_made w _ m 9).alloc _, hm⟩
  have bel : ∀ m : Nat, Below w.heap.size w ((w.alloc (.cells (madeCells #[.string ByteArray.empty] m) 9)).alloc (.cells #[.int .i64 (m : Int), .slice (some ⟨w.heap.size, 0, none⟩) m m] 42)) := fun m => ((Below.refl _ _).alloc (Nat.le_refl _) _).alloc (by simp) _
  by_cases h0 : n < 0
  · have e0 : clampN n = 0 := by unfold clampN; rw [if_pos h0]
    rw [e0]; clear e0
    have hmk : ∀ W : World, (Instr.makeSlice 34 (.int .i64 0) (.int .i64 0)).run Try.prog W = .ok (.slice (some ⟨W.heap.size, 0, none⟩) 0 0) (W.alloc (.cells (madeCells #[.string ByteArray.empty] 0) 9)) := run_mks 0 (by omega)
    go_enter Try.func13, Try.ntmps13
    go_wp2
    go_ret
    exact ⟨rfl, fin 0 (by omega), bel 0⟩
  · by_cases h1 : 1024 < n
    · have e0 : clampN n = 1024 := by unfold clampN; rw [if_neg h0, if_pos h1]
      rw [e0]; clear e0
      have hmk : ∀ W : World, (Instr.makeSlice 34 (.int .i64 1024) (.int .i64 1024)).run Try.prog W = .ok (.slice (some ⟨W.heap.size, 0, none⟩) 1024 1024) (W.alloc (.cells (madeCells #[.string ByteArray.empty] 1024) 9)) := run_mks 1024 (by omega)
      go_enter Try.func13, Try.ntmps13
      go_wp2
      go_ret
      exact ⟨rfl, fin 1024 (by omega), bel 1024⟩
    · obtain ⟨k, rfl⟩ := Int.eq_ofNat_of_zero_le (by omega : 0 ≤ n)
      have e0 : clampN k = k := by unfold clampN; rw [if_neg h0, if_neg h1]; simp
      rw [e0]; clear e0
      have hmk := run_mks k (by omega)
      go_enter Try.func13, Try.ntmps13
      go_wp2
      go_ret
      exact ⟨rfl, fin k (by omega), bel k⟩

def writeS (n : Nat) (S : Nat → ByteArray) (i : Int) (L : List Int) (fail : Bool) : Nat → ByteArray :=
  if badI n i then S else if L.length ≠ 256 then S else if fail then S else updB S i.toNat (strOfNums L)
theorem ref_write {w : World} {R X n : Nat} {S : Nat → ByteArray} (r : Ref w R X n S) (f : Slots) (i : Int) {a : Option Addr} {len cp b off : Nat} {L : List Int} (o : BytesAt w a len cp b off L) (hlen : len ≤ 9223372036854775807) (fail : Bool) :
    Calls Try.prog 16 #[.pointer (some ⟨R, 0, none⟩), .int .i64 i, .slice a len cp, .bool fail] w fun e w' =>
      e = .returned (.int .i64 (writeF n f i L fail).1) ∧ Ref w' R X n (writeS n S i L fail) ∧ Only w w' X := by
  have r0 := r.r0
  have r1 := r.r1
  have hn := r.le
  have hL := o.len_
  cases hb : badI n i with
  | true =>
    have e0 : writeF n f i L fail = (2, f) := by unfold writeF; rw [hb]; rfl
    have e1 : writeS n S i L fail = S := by unfold writeS; rw [hb]; rfl
    rw [e0, e1]; clear e0 e1
    rcases badI_true hb with h | ⟨h1, h2⟩
    all_goals
      go_enter Try.func16, Try.ntmps16
      go_wp2_with fail
      go_ret
      exact ⟨rfl, r, only_refl _ _⟩
  | false =>
    obtain ⟨h1, h2⟩ := badI_false hb
    obtain ⟨k, rfl⟩ := Int.eq_ofNat_of_zero_le h1
    have hk : k < n := by omega
    by_cases h256 : len = 256
    · subst h256
      cases fail with
      | true =>
        have e0 : writeF n f k L true = (40, f) := by unfold writeF; rw [hb, hL]; rfl
        have e1 : writeS n S k L true = S := by unfold writeS; rw [hb, hL]; rfl
        rw [e0, e1]; clear e0 e1
        go_enter Try.func16, Try.ntmps16
        go_wp2_with fail
        go_ret
        exact ⟨rfl, r, only_refl _ _⟩
      | false =>
        have e0 : writeF n f k L false = (0, updS f k L) := by unfold writeF; rw [hb, hL]; rfl
        have e1 : writeS n S k L false = updB S k (strOfNums L) := by unfold writeS; rw [hb, hL]; rfl
        rw [e0, e1]; clear e0 e1
        have q := o.drew.conv (by omega)
        have fz := r.row.frozen k
        have ck := r.row.cell hk
        generalize strOfNums L = z at *
        go_enter Try.func16, Try.ntmps16
        go_wp2_with fail
        go_region
        all_goals
          go_wp2_with fail
          go_ret
          exact ⟨rfl, Ref.store (w := w.drew) (r.below (Below.refl _ _).drew) k z, ⟨rfl, rfl, rfl, by simp [World.setCell], fun i hi hne => Below.heap_setCell w.drew ⟨X, k, none⟩ _ i (by rintro rfl; exact hne rfl)⟩⟩
    · have e0 : writeF n f k L fail = (2, f) := by unfold writeF; rw [hb, hL]; simp [h256]
      have e1 : writeS n S k L fail = S := by unfold writeS; rw [hb, hL]; simp [h256]
      rw [e0, e1]; clear e0 e1
      have q : ((len : Int) != 256) = true := by rw [bne_iff_ne]; omega
      go_enter Try.func16, Try.ntmps16
      go_wp2_with fail
      go_ret
      exact ⟨rfl, r, only_refl _ _⟩

/-- What a read answers. -/
def readL (n : Nat) (f : Slots) (i : Int) (fail : Bool) : List Int × Int := if badI n i then ([], 2) else if fail then ([], 40) else (f i.toNat, 0)
/-- A slice of bytes that nobody else has: it may be written over. -/
structure Fresh (w0 w : World) (a : Option Addr) (len cap b : Nat) (L : List Int) : Prop where
  bytes : BytesAt w a len cap b 0 L
  own : w0.heap.size ≤ b
  soft : 0 < len → ∀ j, j < len → w.frozen? ⟨b, j, none⟩ = false
theorem fresh_nil (w0 w : World) : Fresh w0 w none 0 0 w0.heap.size [] := ⟨⟨fun _ => rfl, fun h => absurd h (Nat.lt_irrefl _), fun h => absurd h (Nat.lt_irrefl _), Nat.le_refl _, rfl, fun i hi => absurd hi (Nat.not_lt_zero _), fun x hx => by cases hx⟩, Nat.le_refl _, fun h => absurd h (Nat.lt_irrefl _)⟩
theorem read_any {w : World} {D B n cap : Nat} {f : Slots} (d : Dev w D B n cap f) (hU : U8 n f) (i : Int) (fail : Bool) :
    Calls Try.prog 12 #[.pointer (some ⟨D, 0, none⟩), .int .i64 i, .bool fail] w fun e w' => ∃ a len c b, e = .returned (.tuple #[.slice a len c, .int .i64 (readL n f i fail).2]) ∧
      Fresh w w' a len c b (readL n f i fail).1 ∧ len ≤ 256 ∧ Below w.heap.size w w' := by
  cases hb : badI n i with
  | true =>
    have e0 : readL n f i fail = ([], 2) := by unfold readL; rw [hb]; rfl
    rw [e0]
    refine (read_bad d i hb fail).mono ?_
    rintro e w' ⟨rfl, rfl⟩
    exact ⟨_, _, _, _, rfl, fresh_nil _ _, by omega, Below.refl _ _⟩
  | false =>
    obtain ⟨h1, h2⟩ := badI_false hb
    obtain ⟨k, rfl⟩ := Int.eq_ofNat_of_zero_le h1
    have hk : k < n := by omega
    cases fail with
    | true =>
      have e0 : readL n f k true = ([], 40) := by unfold readL; rw [hb]; rfl
      rw [e0]
      refine (read_fail d k hk).mono ?_
      rintro e w' ⟨rfl, rfl⟩
      exact ⟨_, _, _, _, rfl, fresh_nil _ _, by omega, Below.refl _ _⟩
    | false =>
      have e0 : readL n f k false = (f k, 0) := by unfold readL; rw [hb]; rfl
      rw [e0]
      have hl := d.len k hk
      refine (read_ok d k hk).mono ?_
      rintro e w' ⟨rfl, r, hf, hbel⟩
      have o := r.bytes (hU k hk) (cap := 256) (by omega)
      rw [hl] at o
      exact ⟨_, _, _, _, rfl, ⟨o, Nat.le_refl _, fun _ j _ => hf j⟩, by omega, hbel⟩

/-- The document's strings are the slots' bytes; of one that was not written there is none. -/
def RelS (n : Nat) (f : Slots) (S : Nat → ByteArray) : Prop := ∀ j, j < n → (f j).length = 256 ∧ ((S j = ByteArray.empty ∧ f j = zeroPage) ∨ S j = strOfNums (f j))
theorem relS_new (n : Nat) : RelS n (fun _ => zeroPage) (fun _ => ByteArray.empty) := fun _ _ => ⟨List.length_replicate, .inl ⟨rfl, rfl⟩⟩
theorem relS_write {n : Nat} {f : Slots} {S : Nat → ByteArray} (h : RelS n f S) (i : Int) (L : List Int) (fail : Bool) : RelS n (writeF n f i L fail).2 (writeS n S i L fail) := by
  unfold writeF writeS
  split
  · exact h
  · split
    · exact h
    · split
      · exact h
      · intro j hj
        show (updS f i.toNat L j).length = 256 ∧ ((updB S i.toNat (strOfNums L) j = ByteArray.empty ∧ updS f i.toNat L j = zeroPage) ∨ updB S i.toNat (strOfNums L) j = strOfNums (updS f i.toNat L j))
        unfold updS updB
        split
        · rename_i hl _ _
          exact ⟨by simpa using hl, .inr rfl⟩
        · exact h j hj
theorem u8_write {n : Nat} {f : Slots} (h : U8 n f) (i : Int) {L : List Int} (hL : ∀ x ∈ L, 0 ≤ x ∧ x ≤ 255) (fail : Bool) : U8 n (writeF n f i L fail).2 := by
  unfold writeF
  split
  · exact h
  · split
    · exact h
    · split
      · exact h
      · intro j hj x hx
        change x ∈ updS f i.toNat L j at hx
        unfold updS at hx
        split at hx
        · exact hL x hx
        · exact h j hj x hx

theorem run_mk256 (W : World) : (Instr.makeSlice 22 (.int .i64 256) (.int .i64 256)).run Try.prog W = .ok (.slice (some ⟨W.heap.size, 0, none⟩) 256 256) (W.alloc (.cells (madeCells #[.int .u8 0] 256) 5)) := by
  obtain ⟨i, hi, hz, hs, hb⟩ := info_parts info5
  have := run_make (P := Try.prog) W 22 5 i _ Try.underlying22 hi hz .i64 .i64 256 256 (by omega) (by omega) (by rw [hb]; omega) (by omega)
  rw [this, hs]
  rfl
theorem strOfNums_ne {L : List Int} (h : L.length = 256) : (ByteArray.toList (strOfNums L)).isEmpty = false := by
  rw [Go.Lib.strOfNums_toList]
  cases L with
  | nil => simp at h
  | cons x r => rfl
theorem zeroPage_get (j : Nat) : zeroPage.getD j 0 = 0 := by
  unfold zeroPage
  rw [List.getD_eq_getElem?_getD, List.getElem?_replicate]
  split <;> rfl
theorem u8_back {x : Int} (h : 0 ≤ x ∧ x ≤ 255) : ((UInt8.ofNat x.toNat).toNat : Int) = x := by
  simp [UInt8.toNat_ofNat']
  omega
theorem strOfNums_cell {L : List Int} (hu : ∀ x ∈ L, 0 ≤ x ∧ x ≤ 255) (cap j : Nat) (hj : j < L.length) : (bytesRow (strOfNums L) cap)[j]? = some (.int .u8 (L.getD j 0)) := by
  have hs : j < (strOfNums L).data.size := by simp [strOfNums, hj]
  rw [bytesRow_at _ _ _ hs]
  have : (strOfNums L).data[j].toNat = ((L.getD j 0).toNat : Nat) % 256 := by
    simp [strOfNums, List.getD, hj, UInt8.toNat_ofNat']
  have h2 := hu (L.getD j 0) (by simp [List.getD, hj])
  rw [this]
  congr 2
  omega

theorem ref_read {w : World} {R X n : Nat} {S : Nat → ByteArray} (r : Ref w R X n S) {f : Slots} (hR : RelS n f S) (hU : U8 n f) (i : Int) (fail : Bool) :
    Calls Try.prog 18 #[.pointer (some ⟨R, 0, none⟩), .int .i64 i, .bool fail] w fun e w' => ∃ a len c b, e = .returned (.tuple #[.slice a len c, .int .i64 (readL n f i fail).2]) ∧
      Fresh w w' a len c b (readL n f i fail).1 ∧ len ≤ 256 ∧ Below w.heap.size w w' := by
  have r0 := r.r0
  have r1 := r.r1
  have hn := r.le
  cases hb : badI n i with
  | true =>
    have e0 : readL n f i fail = ([], 2) := by unfold readL; rw [hb]; rfl
    rw [e0]; clear e0
    rcases badI_true hb with h | ⟨h1, h2⟩
    all_goals
      go_enter Try.func18, Try.ntmps18
      go_wp2_with fail
      go_ret2
      exact ⟨_, _, _, _, rfl, fresh_nil _ _, by omega, Below.refl _ _⟩
  | false =>
    obtain ⟨h1, h2⟩ := badI_false hb
    obtain ⟨k, rfl⟩ := Int.eq_ofNat_of_zero_le h1
    have hk : k < n := by omega
    cases fail with
    | true =>
      have e0 : readL n f k true = ([], 40) := by unfold readL; rw [hb]; rfl
      rw [e0]; clear e0
      go_enter Try.func18, Try.ntmps18
      go_wp2_with fail
      go_ret2
      exact ⟨_, _, _, _, rfl, fresh_nil _ _, by omega, Below.refl _ _⟩
    | false =>
      have e0 : readL n f k false = (f k, 0) := by unfold readL; rw [hb]; rfl
      rw [e0]; clear e0
      have ck := r.row.cell hk
      obtain ⟨hl, ⟨hs, hz⟩ | hs⟩ := hR k hk
      · have hmk := run_mk256
        rw [hs] at ck
        have hq : (ByteArray.toList ByteArray.empty).isEmpty = true := by
          rw [show ByteArray.empty = strOfNums [] from rfl, Go.Lib.strOfNums_toList]; rfl
        rw [hz]
        generalize ByteArray.empty = z0 at *
        go_enter Try.func18, Try.ntmps18
        go_wp2_with fail
        go_ret2
        refine ⟨_, _, _, w.heap.size, rfl, ⟨⟨fun h => (by cases h), fun _ => rfl, fun _ => by simp, Nat.le_refl _, List.length_replicate, fun j hj => ?_, fun x hx => u8_zero 1 0 (by omega) x hx⟩, Nat.le_refl _, fun _ j hj => (World.rowIs_made w (.int .u8 0) 256 5).frozen j⟩, by omega, (Below.refl _ _).alloc (Nat.le_refl _) _⟩
        rw [Nat.zero_add, zeroPage_get]
        exact (World.rowIs_made w (.int .u8 0) 256 5).cell hj
      · have hq := strOfNums_ne hl
        have hsz : (strOfNums (f k)).size = 256 := by rw [strOfNums_size, hl]
        have hcell := fun cap j hj => strOfNums_cell (hU k hk) cap j hj
        have hc := fun W : World => run_bytes_of_string (P := Try.prog) W 9 22 5 (strOfNums (f k)) Try.underlying9 Try.underlying22 Try.underlying5
        rw [hs] at ck
        rw [hsz] at hc
        have hcap : 256 ≤ grownCap w 256 0 5 := grownCap_ge _ _ _ _
        generalize strOfNums (f k) = z at *
        have HC := Lib.hid hcell
        clear hcell
        go_enter Try.func18, Try.ntmps18
        go_wp2_with fail
        go_ret2
        refine ⟨_, _, _, w.heap.size, rfl, ⟨⟨fun h => (by cases h), fun _ => rfl, fun _ => by simp, hcap, hl, fun j hj => ?_, hU k hk⟩, Nat.le_refl _, fun _ j hj => ?_⟩, by omega, ((Below.refl _ _).alloc (Nat.le_refl _) _).drew⟩
        · have hb : (w.alloc (Obj.cells (bytesRow z (grownCap w 256 0 5)) 5 ((bytesRow z (grownCap w 256 0 5)).size, (bytesRow z (grownCap w 256 0 5)).size + 1))).drew.heap[w.heap.size]? = some (Obj.cells (bytesRow z (grownCap w 256 0 5)) 5 ((bytesRow z (grownCap w 256 0 5)).size, (bytesRow z (grownCap w 256 0 5)).size + 1)) := heap_alloc_new w _
          have := HC.out (grownCap w 256 0 5) j (by omega)
          rw [Nat.zero_add]
          simp only [World.cell?, hb]
          exact this
        · have hb : (w.alloc (Obj.cells (bytesRow z (grownCap w 256 0 5)) 5 ((bytesRow z (grownCap w 256 0 5)).size, (bytesRow z (grownCap w 256 0 5)).size + 1))).drew.heap[w.heap.size]? = some (Obj.cells (bytesRow z (grownCap w 256 0 5)) 5 ((bytesRow z (grownCap w 256 0 5)).size, (bytesRow z (grownCap w 256 0 5)).size + 1)) := heap_alloc_new w _
          have := (Array.getElem?_eq_some_iff.1 (HC.out (grownCap w 256 0 5) j (by omega))).1
          simp only [World.frozen?, hb, Bool.and_eq_false_iff, decide_eq_false_iff_not]
          omega
end Go.Proofs.Ytlgbdpdghgmmoaa
