/-
  Bytes in memory; the walk of page: 256 bytes that begin so, in memory of the call's own.
-/
import Derived.Test.YtlgbdpdghgmmoaaRows
import Derived.Test.YtlgbdpdghgmmoaaZeros
import Derived.WalkKit
import Derived.WalkSpells
import Derived.WalkLawsBesides
import Derived.Lib.Hide
import Derived.Laws.AppendOwnNone
import Derived.BigQuiet
namespace Go.Proofs.Ytlgbdpdghgmmoaa
open Go.RowKit

/-- A slice of bytes that may have come in. -/
structure BytesAt (w : World) (a : Option Addr) (len cap b off : Nat) (L : List Int) : Prop where
  nil : a = none → cap = 0
  at_ : 0 < len → a = some ⟨b, off, none⟩
  lt : 0 < len → b < w.heap.size
  le : len ≤ cap
  len_ : L.length = len
  cell : ∀ i, i < len → w.cell? ⟨b, off + i, none⟩ = some (.int .u8 (L.getD i 0))
  u8 : ∀ x ∈ L, 0 ≤ x ∧ x ≤ 255
/-- A row of bytes from a block's head. -/
structure Row (w : World) (g : Nat) (L : List Int) : Prop where
  lt : g < w.heap.size
  cell : ∀ i, i < L.length → w.cell? ⟨g, i, none⟩ = some (.int .u8 (L.getD i 0))
theorem Row.below {w w' : World} {g : Nat} {L : List Int} (r : Row w g L) (h : Below w.heap.size w w') : Row w' g L :=
  ⟨Nat.lt_of_lt_of_le r.lt h.size, fun i hi => (h.cell (p := ⟨g, i, none⟩) r.lt).trans (r.cell i hi)⟩
theorem BytesAt.below {w w' : World} {a : Option Addr} {len cap b off : Nat} {L : List Int} (o : BytesAt w a len cap b off L) (h : Below w.heap.size w w') : BytesAt w' a len cap b off L :=
  ⟨o.nil, o.at_, fun hl => Nat.lt_of_lt_of_le (o.lt hl) h.size, o.le, o.len_, fun i hi => (h.cell (p := ⟨b, off + i, none⟩) (o.lt (by omega))).trans (o.cell i hi), o.u8⟩
/-- A row, as a slice over it. -/
theorem Row.bytes {w : World} {g : Nat} {L : List Int} (r : Row w g L) (hu : ∀ x ∈ L, 0 ≤ x ∧ x ≤ 255) {cap : Nat} (hc : L.length ≤ cap) : BytesAt w (some ⟨g, 0, none⟩) L.length cap g 0 L :=
  ⟨fun h => by simp at h, fun _ => rfl, fun _ => r.lt, hc, rfl, fun i hi => by rw [Nat.zero_add]; exact r.cell i hi, hu⟩

def pad (L : List Int) : List Int := L ++ List.replicate (256 - L.length) 0
theorem pad_len {L : List Int} (h : L.length ≤ 256) : (pad L).length = 256 := by unfold pad; rw [List.length_append, List.length_replicate]; omega
theorem pad_u8 {L : List Int} (h : ∀ x ∈ L, 0 ≤ x ∧ x ≤ 255) : ∀ x ∈ pad L, 0 ≤ x ∧ x ≤ 255 := by
  intro x hx
  unfold pad at hx
  rcases List.mem_append.1 hx with h1 | h1
  · exact h x h1
  · rw [List.eq_of_mem_replicate h1]; omega

/-- A slice of 256 bytes at the head of a block of the call's own. -/
def OwnPage (w : World) (L : List Int) (e : Ending) (w' : World) : Prop :=
  ∃ g cap, e = .returned (.slice (some ⟨g, 0, none⟩) 256 cap) ∧ 256 ≤ cap ∧ w.heap.size ≤ g ∧ Row w' g L ∧ (∀ i, w'.frozen? ⟨g, i, none⟩ = false) ∧ Below w.heap.size w w'

theorem info5 : (Try.prog.info? 5).map (fun i => (i.zero, i.size, i.bytes)) = some (some (.int .u8 0), 1, 1) := by kernel_rfl

theorem row_of_own {w : World} {base : Nat} {v : Value} {L : List Int} (h : w.ownsRow base 5 1 v L.length (L.map (Value.int .u8))) (hv : 0 < L.length) :
    ∃ g cap, v = .slice (some ⟨g, 0, none⟩) L.length cap ∧ L.length ≤ cap ∧ base ≤ g ∧ Row w g L ∧ (∀ i, w.frozen? ⟨g, i, none⟩ = false) := by
  have hcells := @World.ownsRow.cells _ _ _ _ _ _ _ h
  have hlt := h.lt
  rcases h.2 with ⟨rfl, hn⟩ | ⟨g, cap, cur, rfl, hb, hg, hc, hm, _⟩
  · omega
  · refine ⟨g, cap, rfl, hc, hb, ⟨(hlt g rfl).2, fun i hi => ?_⟩, fun i => by simp [World.frozen?, hg]⟩
    have := hcells (g := g) rfl i (.int .u8 (L.getD i 0)) (by simp [List.getD, hi])
    have hadd : (⟨g, 0, none⟩ : Addr).add i = ⟨g, i, none⟩ := by unfold Addr.add; split <;> simp_all
    rwa [hadd] at this

theorem page_any (a : Option Addr) (len cap b off : Nat) (L : List Int) (w : World) (o : BytesAt w a len cap b off L) (hl : len ≤ 256) :
    Calls Try.prog 11 #[.slice a len cap] w fun e w' => OwnPage w (pad L) e w' := by
  obtain ⟨i0, hi, hz0, hz1, hz2⟩ := info_parts info5
  have hL := o.len_
  subst hL
  have fin : ∀ (v : Value) (w' : World), w'.ownsRow w.heap.size 5 1 v 256 (L.map (Value.int .u8) ++ List.replicate (256 - L.length) (.int .u8 0)) → Below w.heap.size w w' → OwnPage w (pad L) (.returned v) w' := by
    intro v w' h hb
    have e1 : L.map (Value.int .u8) ++ List.replicate (256 - L.length) (.int .u8 0) = (pad L).map (Value.int .u8) := by
      unfold pad; rw [List.map_append, List.map_replicate]
    rw [e1] at h
    have h' : w'.ownsRow w.heap.size 5 1 v (pad L).length ((pad L).map (Value.int .u8)) := by rw [pad_len hl]; exact h
    obtain ⟨g, cp, rfl, hc, hg, hr, hf⟩ := row_of_own h' (by rw [pad_len hl]; omega)
    rw [pad_len hl] at hc ⊢
    exact ⟨g, cp, rfl, hc, hg, hr, hf, hb⟩
  have FIN := Lib.hid fin; clear fin
  have hown0 : (w.alloc (.cells #[] 5)).ownsRow w.heap.size 5 1 (.slice (some ⟨w.heap.size, 0, none⟩) 0 0) 0 [] := World.ownsRow_made w #[] 0 (Nat.le_refl _) (by unfold maxLen; omega) (by simp)
  have hsub : (256 : Int) - (L.length : Int) = ((256 - L.length : Nat) : Int) := by omega
  have hb0 : Below w.heap.size w (w.alloc (.cells #[] 5)) := (Below.refl _ _).alloc (Nat.le_refl _) _
  cases a with
  | none =>
    have hc0 := o.nil rfl
    have hle := o.le
    obtain rfl : cap = 0 := hc0
    obtain rfl : L = [] := List.eq_nil_of_length_eq_zero (by omega)
    clear o hle
    have hown1 : (w.alloc (.cells #[] 5)).ownsRow w.heap.size 5 1 (.slice (some ⟨w.heap.size, 0, none⟩) 0 0) 0 [] := hown0
    go_enter Try.func11, Try.ntmps11
    go_wp2_with (first
      | (at_builtin; refine wpList_append_own_none rfl (.tmp 3) (.tmp 4) 22 rfl w.heap.size 5 i0 1 Try.underlying22 hi _ 0 [] rfl hown0 rfl ?_)
      | (at_builtin; refine wpList_append_zeros _ rfl (.tmp 5) (.tmp 8) 22 3 rfl w.heap.size 5 .i64 i0 (.int .u8 0) 1 Try.underlying22 Try.underlying3 hi hz0 hz1 hz2 rfl rfl (.slice (some ⟨w.heap.size, 0, none⟩) 0 0) 0 [] rfl hown0 256 .i64 rfl (by omega) (by omega) (by omega) (by simp) (by omega) (by simp) ?_; intro v' w1 hown2 hgrow))
    go_ret
    exact FIN.out _ _ hown2 (hb0.grown hgrow (by simp) (fun k hk => (hown0.lt k hk).1))
  | some ad =>
    have cases_ : ∃ ad' : Addr, ad = ad' ∧ ∀ j u, (L.map (Value.int .u8))[j]? = some u → (w.alloc (.cells #[] 5)).cell? (ad'.add j) = some u := by
      refine ⟨ad, rfl, fun j u hj => ?_⟩
      have hjl : j < L.length := by
        have := (List.getElem?_eq_some_iff.1 hj).1
        simpa using this
      have hat := o.at_ (by omega)
      have hlt := o.lt (by omega)
      rw [Option.some.inj hat]
      have hadd : (⟨b, off, none⟩ : Addr).add j = ⟨b, off + j, none⟩ := by unfold Addr.add; split <;> simp_all
      rw [hadd, World.cell?_alloc_past _ _ _ hlt, o.cell j hjl, ← hj]
      simp [hjl]
    obtain ⟨ad', rfl, hc⟩ := cases_
    have hb1 := hl
    clear o
    go_enter Try.func11, Try.ntmps11
    go_wp2_with (at_builtin; refine wpList_append_own _ rfl (.tmp 3) (.tmp 4) 22 rfl w.heap.size 5 i0 (.int .u8 0) 1 1 Try.underlying22 hi hz0 hz1 hz2 rfl (by omega) (.slice (some ⟨w.heap.size, 0, none⟩) 0 0) 0 [] rfl hown0 ad L.length cap (L.map (Value.int .u8)) rfl (by simp) hc (ints_oneCell .u8 L) (by unfold maxLen; omega) (by omega) (by simp) ?_)
    intro v1 w1 hown1 hgrow1 hnil1
    have HV := Lib.hid (show v1 ≠ .slice none 0 0 from hnil1)
    have hsz1 : w.heap.size + 1 ≤ w1.heap.size := by have := hgrow1.size; simp at this; omega
    have hb2 : Below w.heap.size w w1 := hb0.grown hgrow1 (by simp) (fun k hk => (hown0.lt k hk).1)
    clear hnil1 hgrow1 hb0 hown0 hc
    go_wp2_with (at_builtin; refine wpList_append_zeros _ rfl (.tmp 5) (.tmp 8) 22 3 rfl w.heap.size 5 .i64 i0 (.int .u8 0) 1 Try.underlying22 Try.underlying3 hi hz0 hz1 hz2 rfl rfl v1 L.length _ rfl hown1 (256 - L.length) .i64 rfl (by omega) (by omega) (by omega) (by omega) (by omega) HV.out ?_)
    intro v' w2 hown2 hgrow2
    go_wp2_with fail
    go_ret
    exact FIN.out _ _ hown2 (hb2.grown hgrow2 hb2.size (fun k hk => (hown1.lt k hk).1))
end Go.Proofs.Ytlgbdpdghgmmoaa
