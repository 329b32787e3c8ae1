/-
  The walk of the law DeviceApart.
-/
import Derived.Test.YtlgbdpdghgmmoaaKnown
namespace Go.Proofs.Ytlgbdpdghgmmoaa
open Go.RowKit

/-- A number of any size, told modulo how many there are. -/
theorem mod_slots (x : Int) {n : Int} (h0 : 1 ≤ n) (h1 : n ≤ 65536) : ∃ k : Nat, (k : Int) < n ∧ (IntKind.u64.wrap x).tmod n = (k : Int) := by
  rw [IntKind.wrap_u64, Int.tmod_eq_emod_of_nonneg (by omega)]
  have h2 := Int.emod_nonneg (x % 18446744073709551616) (show n ≠ 0 by omega)
  have h3 := Int.emod_lt_of_pos (x % 18446744073709551616) (show 0 < n by omega)
  exact ⟨(x % 18446744073709551616 % n).toNat, by omega, by omega⟩

theorem below_drewN {B : Nat} {a w : World} (h : Below B a w) (n : Nat) : Below B a (w.drewN n) := ⟨h.os, h.tape, h.output, h.size, h.block⟩
theorem badI_nat {n k : Nat} (h : k < n) : badI n (k : Int) = false := by unfold badI; simp; omega
theorem write_good {n k : Nat} {f : Slots} {L : List Int} (h : k < n) (hL : L.length = 256) : writeF n f (k : Int) L false = (0, updS f k L) := by
  unfold writeF; rw [badI_nat h, hL]; rfl
theorem write_fail {n k : Nat} {f : Slots} {L : List Int} (h : k < n) (hL : L.length = 256) : writeF n f (k : Int) L true = (40, f) := by
  unfold writeF; rw [badI_nat h, hL]; rfl

theorem known_end {w0 w : World} (hb : Below w0.heap.size w0 w) : Calls Try.prog 8 #[] w fun e w' => e = .returned (.bool true) ∧ Below w0.heap.size w0 w' :=
  (known_any w).mono fun _ _ ⟨he, h⟩ => ⟨he, below_then hb h⟩

set_option maxRecDepth 100000 in
set_option maxHeartbeats 4000000 in
theorem apart_any (slots at_ other : Int) (a : Option Addr) (la ca ba oa : Nat) (LA : List Int) (b : Option Addr) (lb cb bb ob : Nat) (LB : List Int) (w : World)
    (hA : BytesAt w a la ca ba oa LA) (hB : BytesAt w b lb cb bb ob LB) (hla : la ≤ 9223372036854775807) (hlb : lb ≤ 9223372036854775807) :
    Calls Try.prog 3 #[.int .i64 slots, .int .i64 at_, .int .i64 other, .slice a la ca, .slice b lb cb] w fun e w' => e = .returned (.bool true) ∧ Below w.heap.size w w' := by
  by_cases g1 : slots < 2
  · go_enter Try.func3, Try.ntmps3
    go_wp2_with (go_at_call 8; refine (known_any w).mono ?_; rintro e w' ⟨rfl, hb⟩)
    go_ret
    exact ⟨rfl, hb⟩
  by_cases g2 : 1024 < slots
  · go_enter Try.func3, Try.ntmps3
    go_wp2_with (go_at_call 8; refine (known_any w).mono ?_; rintro e w' ⟨rfl, hb⟩)
    go_ret
    exact ⟨rfl, hb⟩
  by_cases g3 : 256 < la
  · go_enter Try.func3, Try.ntmps3
    go_wp2_with (go_at_call 8; refine (known_any w).mono ?_; rintro e w' ⟨rfl, hb⟩)
    go_ret
    exact ⟨rfl, hb⟩
  by_cases g4 : 256 < lb
  · go_enter Try.func3, Try.ntmps3
    go_wp2_with (go_at_call 8; refine (known_any w).mono ?_; rintro e w' ⟨rfl, hb⟩)
    go_ret
    exact ⟨rfl, hb⟩
  obtain ⟨i, hi, ei⟩ := mod_slots at_ (n := slots) (by omega) (by omega)
  obtain ⟨k, hk, ek⟩ := mod_slots other (n := slots) (by omega) (by omega)
  have wi : IntKind.i64.wrap (i : Int) = i := IntWalk.i64_in _ (by omega)
  have wk : IntKind.i64.wrap (k : Int) = k := IntWalk.i64_in _ (by omega)
  go_enter Try.func3, Try.ntmps3
  go_wp2_with fail
  go_quiet (fail)
  by_cases gik : i = k
  · subst gik
    go_wp2_with (go_at_call 8; refine (known_any _).mono ?_; rintro e w' ⟨rfl, hb⟩)
    go_ret
    exact ⟨rfl, below_then (below_drewN (Below.refl _ w) _) hb⟩
  have qik : ((i : Int) == (k : Int)) = false := beq_eq_false_iff_ne.2 (by omega)
  obtain ⟨n, rfl⟩ := Int.eq_ofNat_of_zero_le (show 0 ≤ slots by omega)
  have hin : i < n := by omega
  have hkn : k < n := by omega
  have hn1 : clampN n = n := by unfold clampN; rw [if_neg (by omega), if_neg (by omega)]; simp
  have hpA : (pad LA).length = 256 := pad_len (by rw [hA.len_]; omega)
  have hpB : (pad LB).length = 256 := pad_len (by rw [hB.len_]; omega)
  have e1 : ∀ f : Slots, writeF n f i (pad LA) false = (0, updS f i (pad LA)) := fun f => write_good hin hpA
  have e2 : ∀ f : Slots, writeF n f k (pad LB) false = (0, updS f k (pad LB)) := fun f => write_good hkn hpB
  have e3 : ∀ f : Slots, writeF n f i (pad LB) true = (40, f) := fun f => write_fail hin hpB
  have E1 := Lib.hid e1
  have E2 := Lib.hid e2
  have E3 := Lib.hid e3
  have HN := Lib.hid hn1
  have PA := Lib.hid hpA
  have PB := Lib.hid hpB
  clear e1 e2 e3 hn1 hpA hpB ei ek wi wk
  go_wp2_with fail
  refine (new_st (below_drewN (Below.refl _ w) _) n HN.out).mono ?_
  rintro e w1 ⟨rfl, s1⟩
  go_wp2_with fail
  refine (page_st s1 (hA.below s1.below) (by omega)).mono ?_
  rintro e w2 ⟨g2, c2, rfl, s2, o2, _, _⟩
  go_wp2_with fail
  refine (write_st s2 i o2 (by omega) false (E1.out _)).mono ?_
  rintro e w3 ⟨rfl, s3, _⟩
  go_wp2_with fail
  refine (page_st s3 (hB.below s3.below) (by omega)).mono ?_
  rintro e w4 ⟨g4, c4, rfl, s4, o4, _, _⟩
  go_wp2_with fail
  refine (write_st s4 k o4 (by omega) false (E2.out _)).mono ?_
  rintro e w5 ⟨rfl, s5, _⟩
  go_wp2_with fail
  refine (page_st s5 (hB.below s5.below) (by omega)).mono ?_
  rintro e w6 ⟨g6, c6, rfl, s6, o6, _, _⟩
  go_wp2_with fail
  refine (write_st s6 i o6 (by omega) true (E3.out _)).mono ?_
  rintro e w7 ⟨rfl, s7, _⟩
  have hfi : (updS (updS (fun _ => zeroPage) i (pad LA)) k (pad LB)) i = pad LA := by
    unfold updS; rw [if_neg (by intro h; omega), if_pos rfl]
  have hfk : (updS (updS (fun _ => zeroPage) i (pad LA)) k (pad LB)) k = pad LB := by
    unfold updS; rw [if_pos rfl]
  have HFI := Lib.hid hfi
  have HFK := Lib.hid hfk
  clear hfi hfk s1 s2 s3 s4 s5 s6 o2 o4 o6
  generalize updS (updS (fun _ => zeroPage) i (pad LA)) k (pad LB) = f at *
  go_wp2_with fail
  refine (read_fail s7.dev i hin).mono ?_
  rintro e w' ⟨rfl, rfl⟩
  go_wp2_with fail
  refine (read_ok s7.dev i hin).mono ?_
  rintro e w8 ⟨rfl, r8, _, b8⟩
  have s8 := s7.belowW b8
  go_wp2_with fail
  refine (read_ok s8.dev k hkn).mono ?_
  rintro e w9 ⟨rfl, r9, _, b9⟩
  have s9 := s8.belowW b9
  rw [HFI.out] at r8
  rw [HFK.out] at r9
  have r8' := r8.below b9
  have x8 : BytesAt w9 (some ⟨w7.heap.size, 0, none⟩) 256 256 w7.heap.size 0 (pad LA) := by
    have := r8'.bytes (pad_u8 hA.u8) (cap := 256) (by rw [PA.out]; omega)
    rwa [PA.out] at this
  have x9 : BytesAt w9 (some ⟨w8.heap.size, 0, none⟩) 256 256 w8.heap.size 0 (pad LB) := by
    have := r9.bytes (pad_u8 hB.u8) (cap := 256) (by rw [PB.out]; omega)
    rwa [PB.out] at this
  clear r8 r9 r8' b8 b9 s7 s8
  generalize w7.heap.size = G8 at *
  generalize w8.heap.size = G9 at *
  have hla' : la ≤ 256 := by omega
  have hlb' : lb ≤ 256 := by omega
  obtain ⟨sa, hsa⟩ : ∃ sa, sa = strOfNums (pad LA) := ⟨_, rfl⟩
  obtain ⟨sb, hsb⟩ : ∃ sb, sb = strOfNums (pad LB) := ⟨_, rfl⟩
  have KX : ∀ w' : World, Below w9.heap.size w9 w' → (convert 22 9 (.slice (some ⟨G8, 0, none⟩) 256 256)).run Try.prog w' = .ok (.string sa) w' := fun w' hb => by rw [hsa]; exact (x8.below hb).conv (by omega)
  have KY : ∀ w' : World, Below w9.heap.size w9 w' → (convert 22 9 (.slice (some ⟨G9, 0, none⟩) 256 256)).run Try.prog w' = .ok (.string sb) w' := fun w' hb => by rw [hsb]; exact (x9.below hb).conv (by omega)
  have HX := Lib.hid KX
  have HY := Lib.hid KY
  have HA := Lib.hid hsa
  have HB := Lib.hid hsb
  have hbA := hA.below s9.drew.below
  have kx1 := KX _ (Below.refl _ _).drew
  clear KX KY hsa hsb x8 x9
  go_wp2_with fail
  refine wp_region_noPanic ?_
  refine wp_region_held_drew (S := fun w' => (convert 22 9 (.slice (some ⟨G8, 0, none⟩) 256 256)).run Try.prog w' = .ok (.string sa) w' ∧ (convert 22 9 (.slice (some ⟨G9, 0, none⟩) 256 256)).run Try.prog w' = .ok (.string sb) w') (by kernel_rfl) (by exact ⟨HX.out _ (Below.refl _ _).drew, HY.out _ (Below.refl _ _).drew⟩) (fun hS0 => ?_)
  refine wpAnyH_take (i := 0) (oi := _) (v := ?_) (by simp only [List.getElem?_toArray, List.getElem?_cons_succ, List.getElem?_cons_zero]; rfl) (by kernel_rfl) (by kernel_rfl) (by kernel_rfl) (fun _ _ _ h => h) (Or.inl ⟨by rfl, ?_⟩) (by assumption) ?_
  rotate_left
  · (intro wS hSw; (try dsimp only at hSw); go_simp; try (with_reducible rfl))
  try simp only [Act.put, List.setIfInBounds_toArray, List.set_cons_zero, List.set_cons_succ]
  refine wpAnyH_take (i := 1) (oi := _) (v := ?_) (by simp only [List.getElem?_toArray, List.getElem?_cons_succ, List.getElem?_cons_zero]; rfl) (by kernel_rfl) (by kernel_rfl) (by kernel_rfl) (fun _ _ _ h => h) (Or.inl ⟨by rfl, ?_⟩) (by assumption) ?_
  rotate_left
  · (intro wS hSw; (try dsimp only at hSw); go_simp; try (with_reducible rfl))
  try simp only [Act.put, List.setIfInBounds_toArray, List.set_cons_zero, List.set_cons_succ]
  refine wpAnyH_take (i := 2) (oi := _) (v := ?_) (by simp only [List.getElem?_toArray, List.getElem?_cons_succ, List.getElem?_cons_zero]; rfl) (by kernel_rfl) (by kernel_rfl) (by kernel_rfl) (fun _ _ _ h => h) (Or.inl ⟨by rfl, ?_⟩) (by assumption) ?_
  rotate_left
  · (intro wS hSw; (try dsimp only at hSw); go_simp; try (with_reducible rfl))
  try simp only [Act.put, List.setIfInBounds_toArray, List.set_cons_zero, List.set_cons_succ]
  refine wpAnyH_take (i := 3) (oi := _) (v := ?_) (by simp only [List.getElem?_toArray, List.getElem?_cons_succ, List.getElem?_cons_zero]; rfl) (by kernel_rfl) (by kernel_rfl) (by kernel_rfl) (fun _ _ _ h => h) (Or.inl ⟨by rfl, ?_⟩) (by assumption) ?_
  rotate_left
  · (intro wS hSw; (try dsimp only at hSw); go_simp; try (with_reducible rfl))
  try simp only [Act.put, List.setIfInBounds_toArray, List.set_cons_zero, List.set_cons_succ]
  refine wpAnyH_take (i := 4) (oi := _) (v := ?_) (by simp only [List.getElem?_toArray, List.getElem?_cons_succ, List.getElem?_cons_zero]; rfl) (by kernel_rfl) (by kernel_rfl) (by kernel_rfl) (fun _ _ _ h => h) (Or.inl ⟨by rfl, ?_⟩) (by assumption) ?_
  rotate_left
  · (intro wS hSw; (try dsimp only at hSw); go_simp; try (with_reducible rfl))
  try simp only [Act.put, List.setIfInBounds_toArray, List.set_cons_zero, List.set_cons_succ]
  refine wpAnyH_take (i := 5) (oi := _) (v := ?_) (by simp only [List.getElem?_toArray, List.getElem?_cons_succ, List.getElem?_cons_zero]; rfl) (by kernel_rfl) (by kernel_rfl) (by kernel_rfl) (fun _ _ _ h => h) (Or.inl ⟨by rfl, ?_⟩) (by assumption) ?_
  rotate_left
  · (intro wS hSw; (try dsimp only at hSw); go_simp; try (with_reducible rfl))
  try simp only [Act.put, List.setIfInBounds_toArray, List.set_cons_zero, List.set_cons_succ]
  refine wpAnyH_take (i := 6) (oi := _) (v := ?_) (by simp only [List.getElem?_toArray, List.getElem?_cons_succ, List.getElem?_cons_zero]; rfl) (by kernel_rfl) (by kernel_rfl) (by kernel_rfl) (fun _ _ _ h => h) (Or.inl ⟨by rfl, ?_⟩) (by assumption) ?_
  rotate_left
  · (intro wS hSw; (try dsimp only at hSw); go_simp; try (with_reducible rfl))
  try simp only [Act.put, List.setIfInBounds_toArray, List.set_cons_zero, List.set_cons_succ]
  refine wpAnyH_take (i := 7) (oi := _) (v := ?_) (by simp only [List.getElem?_toArray, List.getElem?_cons_succ, List.getElem?_cons_zero]; rfl) (by kernel_rfl) (by kernel_rfl) (by kernel_rfl) (fun _ _ _ h => h) (Or.inl ⟨by rfl, ?_⟩) (by assumption) ?_
  rotate_left
  · (intro wS hSw; (try dsimp only at hSw); go_simp; try (with_reducible rfl))
  try simp only [Act.put, List.setIfInBounds_toArray, List.set_cons_zero, List.set_cons_succ]
  refine wpAnyH_take (i := 8) (oi := _) (v := ?_) (by simp only [List.getElem?_toArray, List.getElem?_cons_succ, List.getElem?_cons_zero]; rfl) (by kernel_rfl) (by kernel_rfl) (by kernel_rfl) (fun _ _ _ h => h) (Or.inl ⟨by rfl, ?_⟩) (by assumption) ?_
  rotate_left
  · (intro wS hSw; (try dsimp only at hSw); go_simp; try (with_reducible rfl))
  try simp only [Act.put, List.setIfInBounds_toArray, List.set_cons_zero, List.set_cons_succ]
  refine wpAnyH_take (i := 9) (oi := _) (v := ?_) (by simp only [List.getElem?_toArray, List.getElem?_cons_succ, List.getElem?_cons_zero]; rfl) (by kernel_rfl) (by kernel_rfl) (by kernel_rfl) (fun _ _ _ h => h) (Or.inl ⟨by rfl, ?_⟩) (by assumption) ?_
  rotate_left
  · (intro wS hSw; (try dsimp only at hSw); go_simp; try (with_reducible rfl))
  try simp only [Act.put, List.setIfInBounds_toArray, List.set_cons_zero, List.set_cons_succ]
  refine wpAnyH_take (i := 10) (oi := _) (v := ?_) (by simp only [List.getElem?_toArray, List.getElem?_cons_succ, List.getElem?_cons_zero]; rfl) (by kernel_rfl) (by kernel_rfl) (by kernel_rfl) (fun _ _ _ h => h) (Or.inl ⟨by rfl, ?_⟩) (by assumption) ?_
  rotate_left
  · (intro wS hSw; (try dsimp only at hSw); go_simp; try (with_reducible rfl))
  try simp only [Act.put, List.setIfInBounds_toArray, List.set_cons_zero, List.set_cons_succ]
  refine wpAnyH_take (i := 11) (oi := _) (v := ?_) (by simp only [List.getElem?_toArray, List.getElem?_cons_succ, List.getElem?_cons_zero]; rfl) (by kernel_rfl) (by kernel_rfl) (by kernel_rfl) (fun _ _ _ h => h) (Or.inl ⟨by rfl, ?_⟩) (by assumption) ?_
  rotate_left
  · (intro wS hSw; (try dsimp only at hSw); go_simp; try (with_reducible rfl))
  try simp only [Act.put, List.setIfInBounds_toArray, List.set_cons_zero, List.set_cons_succ]
  refine wpAnyH_take (i := 12) (oi := _) (v := ?_) (by simp only [List.getElem?_toArray, List.getElem?_cons_succ, List.getElem?_cons_zero]; rfl) (by kernel_rfl) (by kernel_rfl) (by kernel_rfl) (fun _ _ _ h => h) (Or.inl ⟨by rfl, ?_⟩) (by assumption) ?_
  rotate_left
  · (intro wS hSw; (try dsimp only at hSw); go_simp; try (with_reducible rfl))
  try simp only [Act.put, List.setIfInBounds_toArray, List.set_cons_zero, List.set_cons_succ]
  refine wpAnyH_take (i := 13) (oi := _) (v := ?_) (by simp only [List.getElem?_toArray, List.getElem?_cons_succ, List.getElem?_cons_zero]; rfl) (by kernel_rfl) (by kernel_rfl) (by kernel_rfl) (fun _ _ _ h => h) (Or.inl ⟨by rfl, ?_⟩) (by assumption) ?_
  rotate_left
  · (intro wS hSw; (try dsimp only at hSw); go_simp; try (with_reducible rfl))
  try simp only [Act.put, List.setIfInBounds_toArray, List.set_cons_zero, List.set_cons_succ]
  refine wpAnyH_ready (rs := [14]) (by kernel_rfl) (by simp) ?_
  refine AllReadyH.cons (o := _) (by simp only [List.getElem?_toArray, List.getElem?_cons_succ, List.getElem?_cons_zero]; rfl) (fun K1 hK1 => ?_) AllReadyH.nil
  go_simp
  refine (page_st s9.drew hbA hla').mono ?_; rintro e w10 ⟨g10, c10, rfl, s10, o10, _, b10⟩
  have q10 := o10.conv (by omega)
  rw [← HA.out] at q10
  go_wp2_with fail
  refine hK1.out _ _ (by exact ⟨HX.out _ (below_then (Below.refl _ _).drew b10), HY.out _ (below_then (Below.refl _ _).drew b10)⟩) (fun hS1 => ?_)
  clear hK1 K1
  try simp only [Act.put, List.setIfInBounds_toArray, List.set_cons_zero, List.set_cons_succ]
  refine wpAnyH_ready (rs := [15]) (by kernel_rfl) (by simp) ?_
  refine AllReadyH.cons (o := _) (by simp only [List.getElem?_toArray, List.getElem?_cons_succ, List.getElem?_cons_zero]; rfl) (fun K2 hK2 => ?_) AllReadyH.nil
  go_simp
  refine hK2.out _ _ (by assumption) (fun hS2 => ?_)
  clear hK2 K2
  try simp only [Act.put, List.setIfInBounds_toArray, List.set_cons_zero, List.set_cons_succ]
  refine wpAnyH_take (i := 16) (oi := _) (v := ?_) (by simp only [List.getElem?_toArray, List.getElem?_cons_succ, List.getElem?_cons_zero]; rfl) (by kernel_rfl) (by kernel_rfl) (by kernel_rfl) (fun _ _ _ h => h) (Or.inl ⟨by rfl, ?_⟩) (by assumption) ?_
  rotate_left
  · (intro wS hSw; (try dsimp only at hSw); go_simp; try (with_reducible rfl))
  try simp only [Act.put, List.setIfInBounds_toArray, List.set_cons_zero, List.set_cons_succ]
  refine wpAnyH_take (i := 17) (oi := _) (v := ?_) (by simp only [List.getElem?_toArray, List.getElem?_cons_succ, List.getElem?_cons_zero]; rfl) (by kernel_rfl) (by kernel_rfl) (by kernel_rfl) (fun _ _ _ h => h) (Or.inl ⟨by rfl, ?_⟩) (by assumption) ?_
  rotate_left
  · (intro wS hSw; (try dsimp only at hSw); go_simp; try (with_reducible rfl))
  try simp only [Act.put, List.setIfInBounds_toArray, List.set_cons_zero, List.set_cons_succ]
  refine wpAnyH_take (i := 18) (oi := _) (v := ?_) (by simp only [List.getElem?_toArray, List.getElem?_cons_succ, List.getElem?_cons_zero]; rfl) (by kernel_rfl) (by kernel_rfl) (by kernel_rfl) (fun _ _ _ h => h) (Or.inl ⟨by rfl, ?_⟩) (by assumption) ?_
  rotate_left
  · (intro wS hSw; (try dsimp only at hSw); go_simp; try (with_reducible rfl))
  try simp only [Act.put, List.setIfInBounds_toArray, List.set_cons_zero, List.set_cons_succ]
  refine wpAnyH_take (i := 19) (oi := _) (v := ?_) (by simp only [List.getElem?_toArray, List.getElem?_cons_succ, List.getElem?_cons_zero]; rfl) (by kernel_rfl) (by kernel_rfl) (by kernel_rfl) (fun _ _ _ h => h) (Or.inl ⟨by rfl, ?_⟩) (by assumption) ?_
  rotate_left
  · (intro wS hSw; (try dsimp only at hSw); go_simp; try (with_reducible rfl))
  try simp only [Act.put, List.setIfInBounds_toArray, List.set_cons_zero, List.set_cons_succ]
  refine wpAnyH_take (i := 20) (oi := _) (v := ?_) (by simp only [List.getElem?_toArray, List.getElem?_cons_succ, List.getElem?_cons_zero]; rfl) (by kernel_rfl) (by kernel_rfl) (by kernel_rfl) (fun _ _ _ h => h) (Or.inl ⟨by rfl, ?_⟩) (by assumption) ?_
  rotate_left
  · (intro wS hSw; (try dsimp only at hSw); go_simp; try (with_reducible rfl))
  try simp only [Act.put, List.setIfInBounds_toArray, List.set_cons_zero, List.set_cons_succ]
  refine wpAnyH_take (i := 21) (oi := _) (v := ?_) (by simp only [List.getElem?_toArray, List.getElem?_cons_succ, List.getElem?_cons_zero]; rfl) (by kernel_rfl) (by kernel_rfl) (by kernel_rfl) (fun _ _ _ h => h) (Or.inl ⟨by rfl, ?_⟩) (by assumption) ?_
  rotate_left
  · (intro wS hSw; (try dsimp only at hSw); go_simp; try (with_reducible rfl))
  try simp only [Act.put, List.setIfInBounds_toArray, List.set_cons_zero, List.set_cons_succ]
  refine wpAnyH_ready (rs := [22]) (by kernel_rfl) (by simp) ?_
  refine AllReadyH.cons (o := _) (by simp only [List.getElem?_toArray, List.getElem?_cons_succ, List.getElem?_cons_zero]; rfl) (fun K3 hK3 => ?_) AllReadyH.nil
  go_simp
  refine (page_st s10 (hB.below s10.below) hlb').mono ?_; rintro e w11 ⟨g11, c11, rfl, s11, o11, _, b11⟩
  have q11 := o11.conv (by omega)
  rw [← HB.out] at q11
  go_wp2_with fail
  refine hK3.out _ _ (by exact ⟨HX.out _ (below_then (below_then (Below.refl _ _).drew b10) b11), HY.out _ (below_then (below_then (Below.refl _ _).drew b10) b11)⟩) (fun hS3 => ?_)
  clear hK3 K3
  try simp only [Act.put, List.setIfInBounds_toArray, List.set_cons_zero, List.set_cons_succ]
  refine wpAnyH_ready (rs := [23]) (by kernel_rfl) (by simp) ?_
  refine AllReadyH.cons (o := _) (by simp only [List.getElem?_toArray, List.getElem?_cons_succ, List.getElem?_cons_zero]; rfl) (fun K4 hK4 => ?_) AllReadyH.nil
  go_simp
  refine hK4.out _ _ (by assumption) (fun hS4 => ?_)
  clear hK4 K4
  try simp only [Act.put, List.setIfInBounds_toArray, List.set_cons_zero, List.set_cons_succ]
  refine wpAnyH_take (i := 24) (oi := _) (v := ?_) (by simp only [List.getElem?_toArray, List.getElem?_cons_succ, List.getElem?_cons_zero]; rfl) (by kernel_rfl) (by kernel_rfl) (by kernel_rfl) (fun _ _ _ h => h) (Or.inl ⟨by rfl, ?_⟩) (by assumption) ?_
  rotate_left
  · (intro wS hSw; (try dsimp only at hSw); go_simp; try (with_reducible rfl))
  try simp only [Act.put, List.setIfInBounds_toArray, List.set_cons_zero, List.set_cons_succ]
  refine wpAnyH_take (i := 25) (oi := _) (v := ?_) (by simp only [List.getElem?_toArray, List.getElem?_cons_succ, List.getElem?_cons_zero]; rfl) (by kernel_rfl) (by kernel_rfl) (by kernel_rfl) (fun _ _ _ h => h) (Or.inl ⟨by rfl, ?_⟩) (by assumption) ?_
  rotate_left
  · (intro wS hSw; (try dsimp only at hSw); go_simp; try (with_reducible rfl))
  try simp only [Act.put, List.setIfInBounds_toArray, List.set_cons_zero, List.set_cons_succ]
  refine wpAnyH_take (i := 26) (oi := _) (v := ?_) (by simp only [List.getElem?_toArray, List.getElem?_cons_succ, List.getElem?_cons_zero]; rfl) (by kernel_rfl) (by kernel_rfl) (by kernel_rfl) (fun _ _ _ h => h) (Or.inl ⟨by rfl, ?_⟩) (by assumption) ?_
  rotate_left
  · (intro wS hSw; (try dsimp only at hSw); go_simp; try (with_reducible rfl))
  try simp only [Act.put, List.setIfInBounds_toArray, List.set_cons_zero, List.set_cons_succ]
  refine wpAnyH_ready (rs := [27]) (by kernel_rfl) (by simp) ?_
  refine AllReadyH.cons (o := _) (by simp only [List.getElem?_toArray, List.getElem?_cons_succ, List.getElem?_cons_zero]; rfl) (fun K5 hK5 => ?_) AllReadyH.nil
  go_simp
  refine (known_any w11).mono ?_; rintro e w12 ⟨rfl, hfin⟩
  go_wp2_with fail
  refine hK5.out _ _ (by exact ⟨HX.out _ (below_then (below_then (below_then (Below.refl _ _).drew b10) b11) hfin), HY.out _ (below_then (below_then (below_then (Below.refl _ _).drew b10) b11) hfin)⟩) (fun hS5 => ?_)
  clear hK5 K5
  try simp only [Act.put, List.setIfInBounds_toArray, List.set_cons_zero, List.set_cons_succ]
  refine wpAnyH_take (i := 28) (oi := _) (v := ?_) (by simp only [List.getElem?_toArray, List.getElem?_cons_succ, List.getElem?_cons_zero]; rfl) (by kernel_rfl) (by kernel_rfl) (by kernel_rfl) (fun _ _ _ h => h) (Or.inl ⟨by rfl, ?_⟩) (by assumption) ?_
  rotate_left
  · (intro wS hSw; (try dsimp only at hSw); go_simp; try (with_reducible rfl))
  try simp only [Act.put, List.setIfInBounds_toArray, List.set_cons_zero, List.set_cons_succ]
  refine wpAnyH_take (i := 29) (oi := _) (v := ?_) (by simp only [List.getElem?_toArray, List.getElem?_cons_succ, List.getElem?_cons_zero]; rfl) (by kernel_rfl) (by kernel_rfl) (by kernel_rfl) (fun _ _ _ h => h) (Or.inl ⟨by rfl, ?_⟩) (by assumption) ?_
  rotate_left
  · (intro wS hSw; (try dsimp only at hSw); go_simp; try (with_reducible rfl))
  try simp only [Act.put, List.setIfInBounds_toArray, List.set_cons_zero, List.set_cons_succ]
  refine wpAnyH_done (by kernel_rfl) ?_ _
  refine NoPanic.normal ?_
  go_wp2_with fail
  go_ret
  exact ⟨rfl, below_then s11.below hfin⟩
end Go.Proofs.Ytlgbdpdghgmmoaa
