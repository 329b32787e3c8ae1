/-
  The walk of 'known': it returns true, and turns nothing that was there.
-/
import Derived.Test.YtlgbdpdghgmmoaaNew
import Derived.Deep.RegionHeld3
namespace Go.Proofs.Ytlgbdpdghgmmoaa
open Go.RowKit

/-- A device that the call made, and nothing turned that was there. -/
structure St (w0 w : World) (D B n cap : Nat) (f : Slots) : Prop where
  dev : Dev w D B n cap f
  below : Below w0.heap.size w0 w
  own : w0.heap.size ≤ B
  ownD : w0.heap.size ≤ D
theorem below_only {w0 w w' : World} {b : Nat} (h : Below w0.heap.size w0 w) (ho : Only w w' b) (hb : w0.heap.size ≤ b) : Below w0.heap.size w0 w' :=
  h.grown ho h.size (fun k hk => by cases hk; exact hb)
theorem Dev.below {w w' : World} {D B n cap : Nat} {f : Slots} (d : Dev w D B n cap f) (h : Below w.heap.size w w') : Dev w' D B n cap f where
  d0 := (h.cell (p := ⟨D, 0, none⟩) d.ltD).trans d.d0
  d1 := (h.cell (p := ⟨D, 1, none⟩) d.ltD).trans d.d1
  ne := d.ne
  ltB := Nat.lt_of_lt_of_le d.ltB h.size
  le := d.le
  lec := d.lec
  page := fun i hi j v hv => (h.cell (p := ⟨B, i * 256 + j, none⟩) d.ltB).trans (d.page i hi j v hv)
  there := fun i hi j hj => by
    rw [h.cell (p := ⟨B, i * 256 + j, none⟩) d.ltB, h.frozen (p := ⟨B, i * 256 + j, none⟩) d.ltB]
    exact d.there i hi j hj
  len := d.len
theorem St.belowW {w0 w w' : World} {D B n cap : Nat} {f : Slots} (s : St w0 w D B n cap f) (h : Below w.heap.size w w') : St w0 w' D B n cap f :=
  ⟨s.dev.below h, s.below.trans (h.mono s.below.size), s.own, s.ownD⟩

theorem new_st {w0 w : World} (hb : Below w0.heap.size w0 w) (n : Int) {m : Nat} (hm : clampN n = m) :
    Calls Try.prog 9 #[.int .i64 n] w fun e w' => e = .returned (.pointer (some ⟨w.heap.size + 1, 0, none⟩)) ∧ St w0 w' (w.heap.size + 1) w.heap.size m m (fun _ => zeroPage) := by
  subst hm
  refine (new_any n w).mono ?_
  rintro e w' ⟨rfl, d, b⟩
  exact ⟨rfl, d, hb.trans (b.mono hb.size), hb.size, Nat.le_succ_of_le hb.size⟩
theorem write_st {w0 w : World} {D B n cap : Nat} {f : Slots} (s : St w0 w D B n cap f) (i : Int) {a : Option Addr} {len cp b off : Nat} {L : List Int} (o : BytesAt w a len cp b off L) (hlen : len ≤ 9223372036854775807) (fail : Bool) {k : Int} {f' : Slots} (e : writeF n f i L fail = (k, f')) :
    Calls Try.prog 10 #[.pointer (some ⟨D, 0, none⟩), .int .i64 i, .slice a len cp, .bool fail] w fun e w' => e = .returned (.int .i64 k) ∧ St w0 w' D B n cap f' ∧ Only w w' B := by
  have := write_any s.dev i o hlen fail
  rw [e] at this
  exact this.mono fun _ _ ⟨he, t, o⟩ => ⟨he, ⟨t, below_only s.below o s.own, s.own, s.ownD⟩, o⟩
theorem page_st {w0 w : World} {D B n cap : Nat} {f : Slots} (s : St w0 w D B n cap f) {a : Option Addr} {len cp b off : Nat} {L : List Int} (o : BytesAt w a len cp b off L) (hl : len ≤ 256) :
    Calls Try.prog 11 #[.slice a len cp] w fun e w' => ∃ g c, e = .returned (.slice (some ⟨g, 0, none⟩) 256 c) ∧ St w0 w' D B n cap f ∧ BytesAt w' (some ⟨g, 0, none⟩) 256 c g 0 (pad L) ∧ w.heap.size ≤ g ∧ Below w.heap.size w w' := by
  refine (page_any a len cp b off L w o hl).mono ?_
  rintro e w' ⟨g, c, rfl, hc, hg, hr, _, hb⟩
  have hp := pad_len (L := L) (by rw [o.len_]; exact hl)
  refine ⟨g, c, rfl, s.belowW hb, ?_, hg, hb⟩
  have := hr.bytes (pad_u8 o.u8) (cap := c) (by rw [hp]; exact hc)
  rwa [hp] at this

/-- One byte, as the text lays it for a variadic call. -/
theorem one_byte (w : World) (x : Int) (h0 : 0 ≤ x) (h1 : x ≤ 255) : BytesAt (w.alloc (.cells #[.int .u8 x] 5)) (some ⟨w.heap.size, 0, none⟩) 1 1 w.heap.size 0 [x] :=
  ⟨fun h => by simp at h, fun _ => rfl, fun _ => by simp, Nat.le_refl _, rfl, fun i hi => by
    obtain rfl : i = 0 := by omega
    rw [World.cell?_alloc_new]; rfl, fun y hy => by simp at hy; omega⟩
theorem BytesAt.conv {w : World} {a : Option Addr} {len cap b off : Nat} {L : List Int} (o : BytesAt w a len cap b off L) (hl : 0 < len) :
    (convert 22 9 (.slice a len cap)).run Try.prog w = .ok (.string (strOfNums L)) w := by
  obtain rfl := o.at_ hl
  exact run_convert_bytes_arg w 22 5 Try.underlying22 Try.underlying5 b off len cap L o.len_ (fun i hi => o.cell i hi) 9 Try.underlying9

theorem St.alloc {w0 w : World} {D B n cap : Nat} {f : Slots} (s : St w0 w D B n cap f) (o : Obj) : St w0 (w.alloc o) D B n cap f := s.belowW ((Below.refl _ _).alloc (Nat.le_refl _) o)

theorem below_alloc {a w : World} (h : Below a.heap.size a w) (o : Obj) : Below a.heap.size a (w.alloc o) := h.alloc h.size o
theorem below_then {a w w' : World} (h : Below a.heap.size a w) (k : Below w.heap.size w w') : Below a.heap.size a w' := h.trans (k.mono h.size)

theorem St.drew {w0 w : World} {D B n cap : Nat} {f : Slots} (s : St w0 w D B n cap f) : St w0 w.drew D B n cap f := s.belowW (Below.refl _ _).drew
theorem BytesAt.drew {w : World} {a : Option Addr} {len cap b off : Nat} {L : List Int} (o : BytesAt w a len cap b off L) : BytesAt w.drew a len cap b off L := o.below (Below.refl _ _).drew

set_option maxHeartbeats 1000000 in
theorem known_any (w : World) : Calls Try.prog 8 #[] w fun e w' => e = .returned (.bool true) ∧ Below w.heap.size w w' := by
  have hp7 : (pad [7]).length = 256 := pad_len (by decide)
  have hp8 : (pad [8]).length = 256 := pad_len (by decide)
  have e7 : ∀ f : Slots, writeF 2 f 1 (pad [7]) false = (0, updS f 1 (pad [7])) := fun f => by unfold writeF; rw [hp7]; rfl
  have e8 : ∀ f : Slots, writeF 2 f 1 (pad [8]) true = (40, f) := fun f => by unfold writeF; rw [hp8]; rfl
  have E7 := Lib.hid e7
  have E8 := Lib.hid e8
  clear e7 e8 hp7 hp8
  go_enter Try.func8, Try.ntmps8
  go_wp2_with fail
  refine (new_st (Below.refl _ w) 2 (m := 2) rfl).mono ?_
  rintro e w1 ⟨rfl, s1⟩
  go_wp2_with fail
  refine (page_st (s1.alloc _) (one_byte w1 7 (by omega) (by omega)) (by omega)).mono ?_
  rintro e w2 ⟨g2, c2, rfl, s2, o2, _, _⟩
  go_wp2_with fail
  refine (write_st s2 1 o2 (by omega) false (E7.out _)).mono ?_
  rintro e w3 ⟨rfl, s3, _⟩
  go_wp2_with fail
  refine (page_st (s3.alloc _) (one_byte w3 8 (by omega) (by omega)) (by omega)).mono ?_
  rintro e w4 ⟨g4, c4, rfl, s4, o4, _, _⟩
  go_wp2_with fail
  refine (write_st s4 1 o4 (by omega) true (E8.out _)).mono ?_
  rintro e w5 ⟨rfl, s5, _⟩
  go_wp2_with fail
  refine (read_ok s5.dev 1 (by omega)).mono ?_
  rintro e w6 ⟨rfl, r6, _, b6⟩
  have s6 := s5.belowW b6
  go_wp2_with fail
  have hp7 : (pad [7]).length = 256 := pad_len (by decide)
  have o6 : BytesAt w6 (some ⟨w5.heap.size, 0, none⟩) 256 256 w5.heap.size 0 (pad [7]) := by
    have h1 : (updS (fun _ => zeroPage) 1 (pad [7])) 1 = pad [7] := by unfold updS; rw [if_pos rfl]
    rw [h1] at r6
    have := r6.bytes (pad_u8 (by simp)) (cap := 256) (by rw [hp7]; omega)
    rwa [hp7] at this
  obtain ⟨str, hstr⟩ : ∃ str, str = strOfNums (pad [7]) := ⟨_, rfl⟩
  have KS : ∀ w' : World, Below w6.heap.size w6 w' → (convert 22 9 (.slice (some ⟨w5.heap.size, 0, none⟩) 256 256)).run Try.prog w' = .ok (.string str) w' := fun w' hb => by rw [hstr]; exact (o6.below hb).conv (by omega)
  have K := Lib.hid KS
  have HS := Lib.hid hstr
  have k1 := KS _ (Below.refl _ _).drew
  have k2 := KS _ (below_alloc (Below.refl _ _) (.cells #[.int .u8 7] 5)).drew
  clear KS hp7 o6 r6 b6 hstr
  go_region_with (first
      | (go_at_call 11; refine (page_st ((s6.alloc _).drew) ((one_byte w6 7 (by omega) (by omega)).drew) (by omega)).mono ?_; rintro e w7 ⟨g7, c7, rfl, s7, o7, hg7, b7⟩; have k3 := K.out _ (below_then (below_alloc (Below.refl _ _) _).drew b7); have q7 := o7.conv (by omega); rw [← HS.out] at q7)
      | (go_at_call 14; refine (slots_any s7.dev).mono ?_; rintro e w' ⟨rfl, rfl⟩))
  all_goals
    go_wp2_with fail
    go_ret
    exact ⟨rfl, s7.below⟩
end Go.Proofs.Ytlgbdpdghgmmoaa
