/-
  Calls as they lie in memory; a row of strings beside a device.
-/
import Derived.Test.YtlgbdpdghgmmoaaApart
import Derived.Deep.OwnRows
namespace Go.Proofs.Ytlgbdpdghgmmoaa
open Go.RowKit

/-- A call, as it lies. -/
structure Op1 where
  kind : Int
  slot : Int
  a : Option Addr
  n : Nat
  c : Nat
  b : Nat
  o : Nat
  L : List Int
  short : Bool
  fail : Bool
instance : Inhabited Op1 := ⟨⟨0, 0, none, 0, 0, 0, 0, [], false, false⟩⟩
structure OneOp (w : World) (b o : Nat) (p : Op1) : Prop where
  c0 : w.cell? ⟨b, o, none⟩ = some (.int .i64 p.kind)
  c1 : w.cell? ⟨b, o + 1, none⟩ = some (.int .i64 p.slot)
  c2 : w.cell? ⟨b, o + 2, none⟩ = some (.slice p.a p.n p.c)
  c3 : w.cell? ⟨b, o + 3, none⟩ = some (.bool p.short)
  c4 : w.cell? ⟨b, o + 4, none⟩ = some (.bool p.fail)
  bytes : BytesAt w p.a p.n p.c p.b p.o p.L
  le : p.n ≤ 9223372036854775807
theorem OneOp.below {w w' : World} {b o : Nat} {p : Op1} (h : OneOp w b o p) (hb : Below w.heap.size w w') : OneOp w' b o p := by
  have hlt : b < w.heap.size := World.block_lt_of_cell? w _ h.c0
  exact ⟨(hb.cell (p := ⟨b, o, none⟩) hlt).trans h.c0, (hb.cell (p := ⟨b, o + 1, none⟩) hlt).trans h.c1, (hb.cell (p := ⟨b, o + 2, none⟩) hlt).trans h.c2,
    (hb.cell (p := ⟨b, o + 3, none⟩) hlt).trans h.c3, (hb.cell (p := ⟨b, o + 4, none⟩) hlt).trans h.c4, h.bytes.below hb, h.le⟩
structure OpsAt (w : World) (a : Option Addr) (len b off : Nat) (f : Nat → Op1) : Prop where
  at_ : 0 < len → a = some ⟨b, off, none⟩
  op : ∀ i, i < len → OneOp w b (off + i * 5) (f i)
theorem OpsAt.below {w w' : World} {a : Option Addr} {len b off : Nat} {f : Nat → Op1} (o : OpsAt w a len b off f) (h : Below w.heap.size w w') : OpsAt w' a len b off f :=
  ⟨o.at_, fun i hi => (o.op i hi).below h⟩

theorem Dev.setOther {w : World} {D B n cap : Nat} {f : Slots} (d : Dev w D B n cap f) {X : Nat} (hD : X ≠ D) (hB : X ≠ B) (o : Nat) (v : Value) :
    Dev (w.setCell ⟨X, o, none⟩ v) D B n cap f where
  d0 := by rw [World.cell?_setCell_other (h := fun e => hD (congrArg Addr.block e))]; exact d.d0
  d1 := by rw [World.cell?_setCell_other (h := fun e => hD (congrArg Addr.block e))]; exact d.d1
  ne := d.ne
  ltB := by simpa [World.setCell] using d.ltB
  le := d.le
  lec := d.lec
  page := fun i hi j u hu => by rw [World.cell?_setCell_other (h := fun e => hB (congrArg Addr.block e))]; exact d.page i hi j u hu
  there := fun i hi j hj => by
    rw [World.cell?_setCell_other (h := fun e => hB (congrArg Addr.block e)), World.frozen?_setCell]
    exact d.there i hi j hj
  len := d.len

/-- A device, and a row of strings beside it. -/
structure LSt (w0 w : World) (D B X n : Nat) (f : Slots) (S : Nat → ByteArray) : Prop where
  st : St w0 w D B n n f
  row : w.rowIs X 9 n (fun j => .string (S j))
  own : w0.heap.size ≤ X
  neB : X ≠ B
  neD : X ≠ D
def updB (S : Nat → ByteArray) (k : Nat) (v : ByteArray) : Nat → ByteArray := fun j => if j = k then v else S j
section
variable {w0 w w' : World} {D B X n : Nat} {f f' : Slots} {S : Nat → ByteArray}
theorem LSt.belowW (s : LSt w0 w D B X n f S) (h : Below w.heap.size w w') : LSt w0 w' D B X n f S :=
  ⟨s.st.belowW h, s.row.of_block (h.block X s.row.lt), s.own, s.neB, s.neD⟩
theorem LSt.wrote (s : LSt w0 w D B X n f S) (t : St w0 w' D B n n f') (o : Only w w' B) : LSt w0 w' D B X n f' S :=
  ⟨t, s.row.of_block (o.block X s.row.lt (fun e => s.neB (by cases e; rfl))), s.own, s.neB, s.neD⟩
theorem LSt.store (s : LSt w0 w D B X n f S) (k : Nat) (v : ByteArray) : LSt w0 (w.setCell ⟨X, k, none⟩ (.string v)) D B X n f (updB S k v) :=
  ⟨⟨s.st.dev.setOther s.neD s.neB k _, s.st.below.setCell (p := ⟨X, k, none⟩) s.own _, s.st.own, s.st.ownD⟩,
    (s.row.set k _).congr (fun i _ => by unfold updB; split <;> rfl), s.own, s.neB, s.neD⟩
theorem LSt.cell (s : LSt w0 w D B X n f S) {k : Nat} (hk : k < n) : w.cell? ⟨X, k, none⟩ = some (.string (S k)) := s.row.cell hk
end
theorem info9 : (Try.prog.info? 9).map (fun i => (i.zero, i.size, i.bytes)) = some (some (.string ByteArray.empty), 1, 16) := by kernel_rfl
theorem run_mks (n : Nat) (hn : n ≤ 1024) (W : World) : (Instr.makeSlice 34 (.int .i64 (n : Int)) (.int .i64 (n : Int))).run Try.prog W = .ok (.slice (some ⟨W.heap.size, 0, none⟩) n n) (W.alloc (.cells (madeCells #[.string ByteArray.empty] n) 9)) := by
  obtain ⟨i, hi, hz, hs, hb⟩ := info_parts info9
  have := run_make (P := Try.prog) W 34 9 i _ Try.underlying34 hi hz .i64 .i64 n n (by omega) (by omega) (by rw [hb]; omega) (by omega)
  rw [this, hs]
  simp only [Int.toNat_natCast, Nat.mul_one]
  rfl
theorem lst_new {w0 w : World} {D B n : Nat} {f : Slots} (s : St w0 w D B n n f) : LSt w0 (w.alloc (.cells (madeCells #[.string ByteArray.empty] n) 9)) D B w.heap.size n f (fun _ => ByteArray.empty) :=
  ⟨s.alloc _, World.rowIs_made w _ n 9, s.below.size, by have := s.dev.ltB; omega, by have := s.dev.ltD; omega⟩
end Go.Proofs.Ytlgbdpdghgmmoaa
