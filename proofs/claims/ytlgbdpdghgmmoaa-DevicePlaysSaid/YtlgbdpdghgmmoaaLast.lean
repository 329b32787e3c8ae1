/-
  The walk of the law DeviceLast.
-/
import Derived.Test.YtlgbdpdghgmmoaaOps
namespace Go.Proofs.Ytlgbdpdghgmmoaa
open Go.RowKit

/-- Each string is its slot's bytes. -/
def Same (n : Nat) (f : Slots) (S : Nat → ByteArray) : Prop := ∀ j, j < n → S j = strOfNums (f j)
theorem same_step {n k : Nat} {f : Slots} {S : Nat → ByteArray} (h : Same n f S) (L : List Int) : Same n (updS f k L) (updB S k (strOfNums L)) := by
  intro j hj
  unfold updS updB
  split
  · rfl
  · exact h j hj
theorem write_faulty {n k : Nat} {f : Slots} {L : List Int} (h : k < n) (hL : L.length = 256) (fl : Bool) : writeF n f (k : Int) L fl = if fl then (40, f) else (0, updS f k L) := by
  cases fl with
  | true => exact write_fail h hL
  | false => exact write_good h hL
theorem first_step {k : Nat} {S : Nat → ByteArray} {z z' : ByteArray} (hz : z' = z) (hS : ∀ j, j < k → S j = z) : ∀ j, j < k + 1 → updB S k z j = z' := by
  intro j hj
  rw [hz]
  unfold updB
  split
  · rfl
  · exact hS j (by omega)
theorem BytesAt.only {w w' : World} {a : Option Addr} {len cap b off B : Nat} {L : List Int} (o : BytesAt w a len cap b off L) (h : Only w w' B) (hne : b ≠ B) : BytesAt w' a len cap b off L :=
  ⟨o.nil, o.at_, fun hl => Nat.lt_of_lt_of_le (o.lt hl) h.size, o.le, o.len_, fun i hi => (World.cell?_of_block (w := w) (h.block b (o.lt (by omega)) (fun e => hne (by cases e; rfl)))).trans (o.cell i hi), o.u8⟩
def U8 (n : Nat) (f : Slots) : Prop := ∀ j, j < n → ∀ x ∈ f j, 0 ≤ x ∧ x ≤ 255
theorem u8_zero (n : Nat) : U8 n (fun _ => zeroPage) := fun _ _ x hx => by
  unfold zeroPage at hx
  rw [List.eq_of_mem_replicate hx]; omega
theorem u8_step {n k : Nat} {f : Slots} {L : List Int} (h : U8 n f) (hL : ∀ x ∈ L, 0 ≤ x ∧ x ≤ 255) : U8 n (updS f k (pad L)) := by
  intro j hj x hx
  unfold updS at hx
  split at hx
  · exact pad_u8 hL x hx
  · exact h j hj x hx
theorem nil_bytes (w : World) : BytesAt w none 0 0 0 0 [] :=
  ⟨fun _ => rfl, fun h => absurd h (Nat.lt_irrefl _), fun h => absurd h (Nat.lt_irrefl _), Nat.le_refl _, rfl, fun i hi => absurd hi (Nat.not_lt_zero _), fun x hx => by cases hx⟩
theorem pad_nil : pad [] = zeroPage := rfl

set_option maxRecDepth 100000 in
set_option maxHeartbeats 4000000 in
theorem last_any (slots : Int) (a : Option Addr) (len cap b off : Nat) (P : Nat → Op1) (w : World) (o : OpsAt w a len b off P) (hlen : len ≤ 9223372036854775807) :
    Calls Try.prog 4 #[.int .i64 slots, .slice a len cap] w fun e w' => e = .returned (.bool true) ∧ Below w.heap.size w w' := by
  by_cases g1 : slots < 1
  · go_enter Try.func4, Try.ntmps4
    go_wp2_with (go_at_call 8; refine (known_any w).mono ?_; rintro e w' ⟨rfl, hb⟩)
    go_ret
    exact ⟨rfl, hb⟩
  by_cases g2 : 40 < slots
  · go_enter Try.func4, Try.ntmps4
    go_wp2_with (go_at_call 8; refine (known_any w).mono ?_; rintro e w' ⟨rfl, hb⟩)
    go_ret
    exact ⟨rfl, hb⟩
  by_cases g3 : 60 < len
  · go_enter Try.func4, Try.ntmps4
    go_wp2_with (go_at_call 8; refine (known_any w).mono ?_; rintro e w' ⟨rfl, hb⟩)
    go_ret
    exact ⟨rfl, hb⟩
  obtain ⟨n, rfl⟩ := Int.eq_ofNat_of_zero_le (show 0 ≤ slots by omega)
  have hn1 : clampN n = n := by unfold clampN; rw [if_neg (by omega), if_neg (by omega)]; simp
  have HN := Lib.hid hn1; clear hn1
  have hmk := run_mks n (by omega)
  go_enter Try.func4, Try.ntmps4
  go_wp2_with fail
  refine (new_st (Below.refl _ w) n HN.out).mono ?_
  rintro e w1 ⟨rfl, s1⟩
  go_wp2_with fail
  have l1 := lst_new s1
  clear s1 hmk
  generalize w1.alloc (.cells (madeCells #[.string ByteArray.empty] n) 9) = w2 at *
  generalize w1.heap.size = X at *
  generalize w.heap.size + 1 = D at *
  generalize hB : w.heap.size = B at l1
  go_loopw [33] (fun i wr => ∃ (k : Nat) (S : Nat → ByteArray), k ≤ n ∧ i = .int .i64 k ∧ LSt w wr D B X n (fun _ => zeroPage) S ∧ ∀ j, j < k → S j = strOfNums zeroPage) (fun i _ => n - (intOf i).toNat)
  case atStart => exact ⟨0, _, Nat.zero_le _, rfl, l1, fun j hj => absurd hj (Nat.not_lt_zero _)⟩
  case round =>
    obtain ⟨k, S, hk, rfl, s, hS⟩ := hrel
    by_cases hlt : k < n
    · go_wp2_with fail
      refine (page_st s.st (nil_bytes wr) (by omega)).mono ?_
      rintro e w3 ⟨g3, c3, rfl, s3, o3, _, b3⟩
      have l3 := s.belowW b3
      have q3 := o3.conv (by omega)
      rw [pad_nil] at q3
      have x3 := l3.cell hlt
      have fz := l3.row.frozen k
      generalize hz : strOfNums zeroPage = z at q3 hS
      go_wp2_with fail
      go_roundw
      case rel => exact ⟨k + 1, updB S k z, by omega, by go_num, l3.store k z, first_step hz hS⟩
      case measure => simp [intOf]; omega
    · obtain rfl : k = n := by omega
      go_wp2_with fail
      have hS' : Same k (fun _ => zeroPage) S := hS
      clear hS
      go_loopw [44] (fun i wr => ∃ (m : Nat) (f : Slots) (S : Nat → ByteArray), m ≤ len ∧ i = .int .i64 m ∧ LSt w wr D B X k f S ∧ Same k f S ∧ U8 k f) (fun i _ => len - (intOf i).toNat)
      case atStart => exact ⟨0, _, S, Nat.zero_le _, rfl, s, hS', u8_zero k⟩
      case round =>
        obtain ⟨m, f, S, hm, rfl, s, hS, hU⟩ := hrel
        by_cases hlt : m < len
        · have p := (o.below s.st.below).op m hlt
          obtain rfl := o.at_ (by omega)
          have c1 := p.c1
          have c2 := p.c2
          have c4 := p.c4
          have hle := p.le
          by_cases h256 : 256 < (P m).n
          · go_wp2_with fail
            refine (known_any wr).mono ?_
            rintro e w' ⟨rfl, hb⟩
            go_wp2_with fail
            go_ret
            exact ⟨rfl, below_then s.st.below hb⟩
          · obtain ⟨i, hi, ei⟩ := mod_slots (P m).slot (n := (k : Int)) (by omega) (by omega)
            have wi : IntKind.i64.wrap (i : Int) = i := IntWalk.i64_in _ (by omega)
            have hik : i < k := by omega
            have hbytes := p.bytes
            have hpL : (pad (P m).L).length = 256 := pad_len (by rw [hbytes.len_]; omega)
            have ew := fun g : Slots => write_faulty (f := g) hik hpL (P m).fail
            have EW := Lib.hid ew; clear ew hpL
            have hu := hbytes.u8
            go_wp2_with fail
            refine (page_st s.st hbytes (by omega)).mono ?_
            rintro e w3 ⟨g3, c3, rfl, s3, o3, _, b3⟩
            have l3 := s.belowW b3
            have p3 := p.below b3
            have c4 := p3.c4
            clear p hbytes c1 c2
            generalize hfl : (P m).fail = fl at *
            cases fl with
            | true =>
              go_wp2_with fail
              refine (write_st s3 i o3 (by omega) true (EW.out f)).mono ?_
              rintro e w4 ⟨rfl, s4, on4⟩
              have l4 := l3.wrote s4 on4
              have c4 := ((o.below s4.below).op m hlt).c4
              rw [hfl] at c4
              go_wp2_with fail
              go_roundw
              case rel => exact ⟨m + 1, f, S, by omega, by go_num, l4, hS, hU⟩
              case measure => simp [intOf]; omega
            | false =>
              go_wp2_with fail
              refine (write_st s3 i o3 (by omega) false (EW.out f)).mono ?_
              rintro e w4 ⟨rfl, s4, on4⟩
              have l4 := l3.wrote s4 on4
              have c4 := ((o.below s4.below).op m hlt).c4
              rw [hfl] at c4
              have q4 := (o3.only on4 (by have := s.st.dev.ltB; omega)).conv (by omega)
              have fz := l4.row.frozen i
              have x4 := l4.cell hik
              have hS4 := same_step (k := i) hS (pad (P m).L)
              generalize hz : strOfNums (pad (P m).L) = z at q4 hS4
              go_wp2_with fail
              go_roundw
              case rel => exact ⟨m + 1, _, updB S i z, by omega, by go_num, l4.store i z, hS4, u8_step hU hu⟩
              case measure => simp [intOf]; omega
        · go_wp2_with fail
          go_loopw [117] (fun i wr => ∃ i' : Nat, i' ≤ k ∧ i = .int .i64 i' ∧ LSt w wr D B X k f S) (fun i _ => k - (intOf i).toNat)
          case atStart => exact ⟨0, Nat.zero_le _, rfl, s⟩
          case round =>
            obtain ⟨i, hi, rfl, s⟩ := hrel
            by_cases hik : i < k
            · go_wp2_with fail
              refine (read_ok s.st.dev i hik).mono ?_
              rintro e w3 ⟨rfl, r3, _, b3⟩
              have l3 := s.belowW b3
              have x3 := l3.cell hik
              rw [hS i hik] at x3
              have hl3 := s.st.dev.len i hik
              have o3 : BytesAt w3 (some ⟨wr.heap.size, 0, none⟩) 256 256 wr.heap.size 0 (f i) := by
                have := r3.bytes (hU i hik) (cap := 256) (by omega)
                rwa [hl3] at this
              have q3 := fun m => (o3.below (below_drewN (Below.refl w3.heap.size w3) m)).conv (by omega)
              generalize strOfNums (f i) = z at q3 x3
              go_wp2_with fail
              go_quiet (fail)
              go_wp2_with fail
              go_roundw
              case rel => exact ⟨i + 1, by omega, by go_num, l3.belowW (below_drewN (Below.refl _ _) _)⟩
              case measure => simp [intOf]; omega
            · go_wp2_with fail
              refine (known_any wr).mono ?_
              rintro e w' ⟨rfl, hb⟩
              go_wp2_with fail
              go_ret
              exact ⟨rfl, below_then s.st.below hb⟩
end Go.Proofs.Ytlgbdpdghgmmoaa
