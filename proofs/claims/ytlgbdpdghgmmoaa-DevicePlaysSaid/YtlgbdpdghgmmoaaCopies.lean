/-
  The walk of the law DeviceCopies.
-/
import Derived.Test.YtlgbdpdghgmmoaaCopy
import Derived.Test.YtlgbdpdghgmmoaaLast
namespace Go.Proofs.Ytlgbdpdghgmmoaa
open Go.RowKit

theorem conv_at {w w' : World} {len cap b off : Nat} {L : List Int} (o : BytesAt w (some ⟨b, off, none⟩) len cap b off L) (hb : w'.heap[b]? = w.heap[b]?) :
    (convert 22 9 (.slice (some ⟨b, off, none⟩) len cap)).run Try.prog w' = .ok (.string (strOfNums L)) w' :=
  run_convert_bytes_arg w' 22 5 Try.underlying22 Try.underlying5 b off len cap L o.len_ (fun i hi => (World.cell?_of_block (w := w) hb).trans (o.cell i hi)) 9 Try.underlying9
theorem read_st {w0 w : World} {D B n cap : Nat} {f : Slots} (s : St w0 w D B n cap f) (k : Nat) (hk : k < n) {L : List Int} (hf : f k = L) (hu : ∀ x ∈ L, 0 ≤ x ∧ x ≤ 255) :
    Calls Try.prog 12 #[.pointer (some ⟨D, 0, none⟩), .int .i64 (k : Int), .bool false] w fun e w' =>
      e = .returned (.tuple #[.slice (some ⟨w.heap.size, 0, none⟩) 256 256, .int .i64 0]) ∧ St w0 w' D B n cap f ∧ BytesAt w' (some ⟨w.heap.size, 0, none⟩) 256 256 w.heap.size 0 L ∧ Below w.heap.size w w' ∧ w.heap.size < w'.heap.size := by
  subst hf
  refine (read_ok s.dev k hk).mono ?_
  rintro e w' ⟨rfl, r, _, b⟩
  have hl := s.dev.len k hk
  have := r.bytes hu (cap := 256) (by omega)
  rw [hl] at this
  exact ⟨rfl, s.belowW b, this, b, r.lt⟩

set_option maxRecDepth 100000 in
set_option maxHeartbeats 4000000 in
theorem copies_any (slots at_ : Int) (a : Option Addr) (la ca ba oa : Nat) (LA : List Int) (b : Option Addr) (lb cb bb ob : Nat) (LB : List Int) (c : Option Addr) (lc cc bc oc : Nat) (LC : List Int) (w : World)
    (hA : BytesAt w a la ca ba oa LA) (hB : BytesAt w b lb cb bb ob LB) (hC : BytesAt w c lc cc bc oc LC) (hla : la ≤ 9223372036854775807) (hlb : lb ≤ 9223372036854775807) (hlc : lc ≤ 9223372036854775807) :
    Calls Try.prog 7 #[.int .i64 slots, .int .i64 at_, .slice a la ca, .slice b lb cb, .slice c lc cc] w fun e w' => e = .returned (.bool true) ∧ Below w.heap.size w w' := by
  by_cases g1 : slots < 1
  · go_enter Try.func7, Try.ntmps7
    go_wp2_with (go_at_call 8; refine (known_any w).mono ?_; rintro e w' ⟨rfl, hb⟩)
    go_ret
    exact ⟨rfl, hb⟩
  by_cases g2 : 1024 < slots
  · go_enter Try.func7, Try.ntmps7
    go_wp2_with (go_at_call 8; refine (known_any w).mono ?_; rintro e w' ⟨rfl, hb⟩)
    go_ret
    exact ⟨rfl, hb⟩
  by_cases g3 : 256 < la
  · go_enter Try.func7, Try.ntmps7
    go_wp2_with (go_at_call 8; refine (known_any w).mono ?_; rintro e w' ⟨rfl, hb⟩)
    go_ret
    exact ⟨rfl, hb⟩
  by_cases g4 : 256 < lb
  · go_enter Try.func7, Try.ntmps7
    go_wp2_with (go_at_call 8; refine (known_any w).mono ?_; rintro e w' ⟨rfl, hb⟩)
    go_ret
    exact ⟨rfl, hb⟩
  by_cases g5 : 256 < lc
  · go_enter Try.func7, Try.ntmps7
    go_wp2_with (go_at_call 8; refine (known_any w).mono ?_; rintro e w' ⟨rfl, hb⟩)
    go_ret
    exact ⟨rfl, hb⟩
  obtain ⟨i, hi, ei⟩ := mod_slots at_ (n := slots) (by omega) (by omega)
  have wi : IntKind.i64.wrap (i : Int) = i := IntWalk.i64_in _ (by omega)
  obtain ⟨n, rfl⟩ := Int.eq_ofNat_of_zero_le (show 0 ≤ slots by omega)
  have hin : i < n := by omega
  have hn1 : clampN n = n := by unfold clampN; rw [if_neg (by omega), if_neg (by omega)]; simp
  have hpA : (pad LA).length = 256 := pad_len (by rw [hA.len_]; omega)
  have hpB : (pad LB).length = 256 := pad_len (by rw [hB.len_]; omega)
  have hpC : (pad LC).length = 256 := pad_len (by rw [hC.len_]; omega)
  have e1 : ∀ f : Slots, writeF n f i (pad LA) false = (0, updS f i (pad LA)) := fun f => write_good hin hpA
  have e2 : ∀ f : Slots, writeF n f i (pad LB) false = (0, updS f i (pad LB)) := fun f => write_good hin hpB
  have e3 : ∀ f : Slots, writeF n f i (pad LC) false = (0, updS f i (pad LC)) := fun f => write_good hin hpC
  have E1 := Lib.hid e1
  have E2 := Lib.hid e2
  have E3 := Lib.hid e3
  have HN := Lib.hid hn1
  have hla' : la ≤ 256 := by omega
  have hlb' : lb ≤ 256 := by omega
  have hlc' : lc ≤ 256 := by omega
  clear e1 e2 e3 hn1 hpA hpB hpC
  go_enter Try.func7, Try.ntmps7
  go_wp2_with fail
  refine (new_st (Below.refl _ w) n HN.out).mono ?_
  rintro e w1 ⟨rfl, s1⟩
  generalize hDD : w.heap.size + 1 = D at *
  generalize hBB : w.heap.size = B at s1
  go_wp2_with fail
  refine (page_st s1 (hA.below s1.below) hla').mono ?_
  rintro e w2 ⟨g2, c2, rfl, s2, o2, _, _⟩
  go_wp2_with fail
  refine (write_st s2 i o2 (by omega) false (E1.out _)).mono ?_
  rintro e w3 ⟨rfl, s3, _⟩
  have hf3 : (updS (fun _ => zeroPage) i (pad LA)) i = pad LA := by unfold updS; rw [if_pos rfl]
  generalize updS (fun _ => zeroPage) i (pad LA) = f3 at *
  clear s1 s2 o2
  go_wp2_with fail
  refine (copy_st s3).mono ?_
  rintro e w4 ⟨D', B', cap', rfl, hD', hB', e4, s4, b4⟩
  have hDB : D' ≠ B := by have := s3.dev.ltB; omega
  have hBB' : B' ≠ B := by have := s3.dev.ltB; omega
  have hDB2 : D ≠ B' := by have := s3.dev.ltD; omega
  clear s3 hD' hB' b4
  go_wp2_with fail
  refine (slots_any e4.dev).mono ?_
  rintro e w' ⟨rfl, rfl⟩
  go_wp2_with fail
  refine (page_st s4 (hB.below s4.below) hlb').mono ?_
  rintro e w5 ⟨g5, c5, rfl, s5, o5, _, b5⟩
  have e5 := e4.belowW b5
  go_wp2_with fail
  refine (write_st s5 i o5 (by omega) false (E2.out _)).mono ?_
  rintro e w6 ⟨rfl, s6, on6⟩
  have e6 := e5.only on6 s5.own hDB hBB'
  have hf6 : (updS f3 i (pad LB)) i = pad LB := by unfold updS; rw [if_pos rfl]
  generalize updS f3 i (pad LB) = f6 at *
  clear s4 s5 e4 e5 o5 on6 b5
  go_wp2_with fail
  refine (read_st e6 i hin hf3 (pad_u8 hA.u8)).mono ?_
  rintro e w7 ⟨rfl, e7, x7, b7, hG⟩
  have s7 := s6.belowW b7
  have hGB : some w6.heap.size ≠ some B' := by have := e6.dev.ltB; intro h; cases h; omega
  clear e6 s6 b7
  generalize w6.heap.size = G at *
  obtain ⟨sa, hsa⟩ : ∃ sa, sa = strOfNums (pad LA) := ⟨_, rfl⟩
  obtain ⟨sb, hsb⟩ : ∃ sb, sb = strOfNums (pad LB) := ⟨_, rfl⟩
  have KX : ∀ w' : World, w'.heap[G]? = w7.heap[G]? → (convert 22 9 (.slice (some ⟨G, 0, none⟩) 256 256)).run Try.prog w' = .ok (.string sa) w' := fun w' hb => by rw [hsa]; exact conv_at x7 hb
  have HX := Lib.hid KX
  have HA := Lib.hid hsa
  have HB := Lib.hid hsb
  clear KX hsa hsb x7 ei wi
  go_wp2_with fail
  refine wp_region_noPanic ?_
  refine wp_region_held_drew (S := (fun w' => (convert 22 9 (.slice (some ⟨G, 0, none⟩) 256 256)).run Try.prog w' = .ok (.string sa) w')) (by kernel_rfl) (by exact HX.out _ rfl) (fun hS0 => ?_)
  refine wpAnyH_take (i := 0) (oi := _) (v := ?_) (by simp only [List.getElem?_toArray, List.getElem?_cons_succ, List.getElem?_cons_zero]; rfl) (by kernel_rfl) (by kernel_rfl) (by kernel_rfl) (fun _ _ _ h => h) (Or.inl ⟨by rfl, ?_⟩) (by assumption) ?_
  rotate_left
  · (intro wS hSw; (try dsimp only at hSw); go_simp; try (with_reducible rfl))
  try simp only [Act.put, List.setIfInBounds_toArray, List.set_cons_zero, List.set_cons_succ]
  refine wpAnyH_take (i := 1) (oi := _) (v := ?_) (by simp only [List.getElem?_toArray, List.getElem?_cons_succ, List.getElem?_cons_zero]; rfl) (by kernel_rfl) (by kernel_rfl) (by kernel_rfl) (fun _ _ _ h => h) (Or.inl ⟨by rfl, ?_⟩) (by assumption) ?_
  rotate_left
  · (intro wS hSw; (try dsimp only at hSw); go_simp; try (with_reducible rfl))
  try simp only [Act.put, List.setIfInBounds_toArray, List.set_cons_zero, List.set_cons_succ]
  refine wpAnyH_take (i := 2) (oi := _) (v := ?_) (by simp only [List.getElem?_toArray, List.getElem?_cons_succ, List.getElem?_cons_zero]; rfl) (by kernel_rfl) (by kernel_rfl) (by kernel_rfl) (fun _ _ _ h => h) (Or.inl ⟨by rfl, ?_⟩) (by assumption) ?_
  rotate_left
  · (intro wS hSw; (try dsimp only at hSw); go_simp; try (with_reducible rfl))
  try simp only [Act.put, List.setIfInBounds_toArray, List.set_cons_zero, List.set_cons_succ]
  refine wpAnyH_take (i := 3) (oi := _) (v := ?_) (by simp only [List.getElem?_toArray, List.getElem?_cons_succ, List.getElem?_cons_zero]; rfl) (by kernel_rfl) (by kernel_rfl) (by kernel_rfl) (fun _ _ _ h => h) (Or.inl ⟨by rfl, ?_⟩) (by assumption) ?_
  rotate_left
  · (intro wS hSw; (try dsimp only at hSw); go_simp; try (with_reducible rfl))
  try simp only [Act.put, List.setIfInBounds_toArray, List.set_cons_zero, List.set_cons_succ]
  refine wpAnyH_take (i := 4) (oi := _) (v := ?_) (by simp only [List.getElem?_toArray, List.getElem?_cons_succ, List.getElem?_cons_zero]; rfl) (by kernel_rfl) (by kernel_rfl) (by kernel_rfl) (fun _ _ _ h => h) (Or.inl ⟨by rfl, ?_⟩) (by assumption) ?_
  rotate_left
  · (intro wS hSw; (try dsimp only at hSw); go_simp; try (with_reducible rfl))
  try simp only [Act.put, List.setIfInBounds_toArray, List.set_cons_zero, List.set_cons_succ]
  refine wpAnyH_take (i := 5) (oi := _) (v := ?_) (by simp only [List.getElem?_toArray, List.getElem?_cons_succ, List.getElem?_cons_zero]; rfl) (by kernel_rfl) (by kernel_rfl) (by kernel_rfl) (fun _ _ _ h => h) (Or.inl ⟨by rfl, ?_⟩) (by assumption) ?_
  rotate_left
  · (intro wS hSw; (try dsimp only at hSw); go_simp; try (with_reducible rfl))
  try simp only [Act.put, List.setIfInBounds_toArray, List.set_cons_zero, List.set_cons_succ]
  refine wpAnyH_ready (rs := [6]) (by kernel_rfl) (by simp) ?_
  refine AllReadyH.cons (o := _) (by simp only [List.getElem?_toArray, List.getElem?_cons_succ, List.getElem?_cons_zero]; rfl) (fun K1 hK1 => ?_) AllReadyH.nil
  go_simp
  refine (page_st s7.drew (hA.below s7.drew.below) hla').mono ?_; rintro e w8 ⟨g8, c8, rfl, s8, o8, _, b8⟩; have q8 := o8.conv (by omega); rw [← HA.out] at q8; have e8 := e7.drew.belowW b8
  go_wp2_with fail
  refine hK1.out _ _ (by exact HX.out _ (b8.block G hG)) (fun hS1 => ?_)
  clear hK1 K1
  try simp only [Act.put, List.setIfInBounds_toArray, List.set_cons_zero, List.set_cons_succ]
  refine wpAnyH_ready (rs := [7]) (by kernel_rfl) (by simp) ?_
  refine AllReadyH.cons (o := _) (by simp only [List.getElem?_toArray, List.getElem?_cons_succ, List.getElem?_cons_zero]; rfl) (fun K2 hK2 => ?_) AllReadyH.nil
  go_simp
  refine hK2.out _ _ (by assumption) (fun hS2 => ?_)
  clear hK2 K2
  try simp only [Act.put, List.setIfInBounds_toArray, List.set_cons_zero, List.set_cons_succ]
  refine wpAnyH_take (i := 8) (oi := _) (v := ?_) (by simp only [List.getElem?_toArray, List.getElem?_cons_succ, List.getElem?_cons_zero]; rfl) (by kernel_rfl) (by kernel_rfl) (by kernel_rfl) (fun _ _ _ h => h) (Or.inl ⟨by rfl, ?_⟩) (by assumption) ?_
  rotate_left
  · (intro wS hSw; (try dsimp only at hSw); go_simp; try (with_reducible rfl))
  try simp only [Act.put, List.setIfInBounds_toArray, List.set_cons_zero, List.set_cons_succ]
  refine wpAnyH_take (i := 9) (oi := _) (v := ?_) (by simp only [List.getElem?_toArray, List.getElem?_cons_succ, List.getElem?_cons_zero]; rfl) (by kernel_rfl) (by kernel_rfl) (by kernel_rfl) (fun _ _ _ h => h) (Or.inl ⟨by rfl, ?_⟩) (by assumption) ?_
  rotate_left
  · (intro wS hSw; (try dsimp only at hSw); go_simp; try (with_reducible rfl))
  try simp only [Act.put, List.setIfInBounds_toArray, List.set_cons_zero, List.set_cons_succ]
  refine wpAnyH_take (i := 10) (oi := _) (v := ?_) (by simp only [List.getElem?_toArray, List.getElem?_cons_succ, List.getElem?_cons_zero]; rfl) (by kernel_rfl) (by kernel_rfl) (by kernel_rfl) (fun _ _ _ h => h) (Or.inl ⟨by rfl, ?_⟩) (by assumption) ?_
  rotate_left
  · (intro wS hSw; (try dsimp only at hSw); go_simp; try (with_reducible rfl))
  try simp only [Act.put, List.setIfInBounds_toArray, List.set_cons_zero, List.set_cons_succ]
  refine wpAnyH_take (i := 11) (oi := _) (v := ?_) (by simp only [List.getElem?_toArray, List.getElem?_cons_succ, List.getElem?_cons_zero]; rfl) (by kernel_rfl) (by kernel_rfl) (by kernel_rfl) (fun _ _ _ h => h) (Or.inl ⟨by rfl, ?_⟩) (by assumption) ?_
  rotate_left
  · (intro wS hSw; (try dsimp only at hSw); go_simp; try (with_reducible rfl))
  try simp only [Act.put, List.setIfInBounds_toArray, List.set_cons_zero, List.set_cons_succ]
  refine wpAnyH_take (i := 12) (oi := _) (v := ?_) (by simp only [List.getElem?_toArray, List.getElem?_cons_succ, List.getElem?_cons_zero]; rfl) (by kernel_rfl) (by kernel_rfl) (by kernel_rfl) (fun _ _ _ h => h) (Or.inl ⟨by rfl, ?_⟩) (by assumption) ?_
  rotate_left
  · (intro wS hSw; (try dsimp only at hSw); go_simp; try (with_reducible rfl))
  try simp only [Act.put, List.setIfInBounds_toArray, List.set_cons_zero, List.set_cons_succ]
  refine wpAnyH_take (i := 13) (oi := _) (v := ?_) (by simp only [List.getElem?_toArray, List.getElem?_cons_succ, List.getElem?_cons_zero]; rfl) (by kernel_rfl) (by kernel_rfl) (by kernel_rfl) (fun _ _ _ h => h) (Or.inl ⟨by rfl, ?_⟩) (by assumption) ?_
  rotate_left
  · (intro wS hSw; (try dsimp only at hSw); go_simp; try (with_reducible rfl))
  try simp only [Act.put, List.setIfInBounds_toArray, List.set_cons_zero, List.set_cons_succ]
  refine wpAnyH_ready (rs := [14]) (by kernel_rfl) (by simp) ?_
  refine AllReadyH.cons (o := _) (by simp only [List.getElem?_toArray, List.getElem?_cons_succ, List.getElem?_cons_zero]; rfl) (fun K3 hK3 => ?_) AllReadyH.nil
  go_simp
  refine (page_st s8 (hC.below s8.below) hlc').mono ?_; rintro e w9 ⟨g9, c9, rfl, s9, o9, _, b9⟩; have e9 := e8.belowW b9; have hG9 := (b9.block G (Nat.lt_of_lt_of_le hG b8.size)).trans (b8.block G hG)
  go_wp2_with fail
  refine hK3.out _ _ (by exact HX.out _ hG9) (fun hS3 => ?_)
  clear hK3 K3
  try simp only [Act.put, List.setIfInBounds_toArray, List.set_cons_zero, List.set_cons_succ]
  refine wpAnyH_ready (rs := [15]) (by kernel_rfl) (by simp) ?_
  refine AllReadyH.cons (o := _) (by simp only [List.getElem?_toArray, List.getElem?_cons_succ, List.getElem?_cons_zero]; rfl) (fun K4 hK4 => ?_) AllReadyH.nil
  go_simp
  refine (write_st e9 i o9 (by omega) false (E3.out _)).mono ?_; rintro e w10 ⟨rfl, e10, on10⟩
  go_wp2_with fail
  refine hK4.out _ _ (by exact HX.out _ ((on10.block G (Nat.lt_of_lt_of_le (Nat.lt_of_lt_of_le hG b8.size) b9.size) hGB).trans hG9)) (fun hS4 => ?_)
  clear hK4 K4
  try simp only [Act.put, List.setIfInBounds_toArray, List.set_cons_zero, List.set_cons_succ]
  refine wpAnyH_take (i := 16) (oi := _) (v := ?_) (by simp only [List.getElem?_toArray, List.getElem?_cons_succ, List.getElem?_cons_zero]; rfl) (by kernel_rfl) (by kernel_rfl) (by kernel_rfl) (fun _ _ _ h => h) (Or.inl ⟨by rfl, ?_⟩) (by assumption) ?_
  rotate_left
  · (intro wS hSw; (try dsimp only at hSw); go_simp; try (with_reducible rfl))
  try simp only [Act.put, List.setIfInBounds_toArray, List.set_cons_zero, List.set_cons_succ]
  refine wpAnyH_take (i := 17) (oi := _) (v := ?_) (by simp only [List.getElem?_toArray, List.getElem?_cons_succ, List.getElem?_cons_zero]; rfl) (by kernel_rfl) (by kernel_rfl) (by kernel_rfl) (fun _ _ _ h => h) (Or.inl ⟨by rfl, ?_⟩) (by assumption) ?_
  rotate_left
  · (intro wS hSw; (try dsimp only at hSw); go_simp; try (with_reducible rfl))
  try simp only [Act.put, List.setIfInBounds_toArray, List.set_cons_zero, List.set_cons_succ]
  refine wpAnyH_done (by kernel_rfl) ?_ _
  refine NoPanic.normal ?_
  have s10 := s9.only on10 e9.own hDB2 hBB'.symm
  clear e8 e9 s8 s9 o8 o9 b8 b9 q8 on10 hG9 e7 s7 HX e10
  go_wp2_with fail
  refine (read_st s10 i hin hf6 (pad_u8 hB.u8)).mono ?_
  rintro e w11 ⟨rfl, s11, x11, b11, hG2⟩
  clear s10 b11
  generalize w10.heap.size = G2 at *
  have KY : ∀ w' : World, w'.heap[G2]? = w11.heap[G2]? → (convert 22 9 (.slice (some ⟨G2, 0, none⟩) 256 256)).run Try.prog w' = .ok (.string sb) w' := fun w' hb => by rw [HB.out]; exact conv_at x11 hb
  have HY := Lib.hid KY
  clear KY x11
  go_wp2_with fail
  refine wp_region_noPanic ?_
  refine wp_region_held_drew (S := (fun w' => (convert 22 9 (.slice (some ⟨G2, 0, none⟩) 256 256)).run Try.prog w' = .ok (.string sb) w')) (by kernel_rfl) (by exact HY.out _ rfl) (fun hS0 => ?_)
  refine wpAnyH_take (i := 0) (oi := _) (v := ?_) (by simp only [List.getElem?_toArray, List.getElem?_cons_succ, List.getElem?_cons_zero]; rfl) (by kernel_rfl) (by kernel_rfl) (by kernel_rfl) (fun _ _ _ h => h) (Or.inl ⟨by rfl, ?_⟩) (by assumption) ?_
  rotate_left
  · (intro wS hSw; (try dsimp only at hSw); go_simp; try (with_reducible rfl))
  try simp only [Act.put, List.setIfInBounds_toArray, List.set_cons_zero, List.set_cons_succ]
  refine wpAnyH_take (i := 1) (oi := _) (v := ?_) (by simp only [List.getElem?_toArray, List.getElem?_cons_succ, List.getElem?_cons_zero]; rfl) (by kernel_rfl) (by kernel_rfl) (by kernel_rfl) (fun _ _ _ h => h) (Or.inl ⟨by rfl, ?_⟩) (by assumption) ?_
  rotate_left
  · (intro wS hSw; (try dsimp only at hSw); go_simp; try (with_reducible rfl))
  try simp only [Act.put, List.setIfInBounds_toArray, List.set_cons_zero, List.set_cons_succ]
  refine wpAnyH_take (i := 2) (oi := _) (v := ?_) (by simp only [List.getElem?_toArray, List.getElem?_cons_succ, List.getElem?_cons_zero]; rfl) (by kernel_rfl) (by kernel_rfl) (by kernel_rfl) (fun _ _ _ h => h) (Or.inl ⟨by rfl, ?_⟩) (by assumption) ?_
  rotate_left
  · (intro wS hSw; (try dsimp only at hSw); go_simp; try (with_reducible rfl))
  try simp only [Act.put, List.setIfInBounds_toArray, List.set_cons_zero, List.set_cons_succ]
  refine wpAnyH_take (i := 3) (oi := _) (v := ?_) (by simp only [List.getElem?_toArray, List.getElem?_cons_succ, List.getElem?_cons_zero]; rfl) (by kernel_rfl) (by kernel_rfl) (by kernel_rfl) (fun _ _ _ h => h) (Or.inl ⟨by rfl, ?_⟩) (by assumption) ?_
  rotate_left
  · (intro wS hSw; (try dsimp only at hSw); go_simp; try (with_reducible rfl))
  try simp only [Act.put, List.setIfInBounds_toArray, List.set_cons_zero, List.set_cons_succ]
  refine wpAnyH_take (i := 4) (oi := _) (v := ?_) (by simp only [List.getElem?_toArray, List.getElem?_cons_succ, List.getElem?_cons_zero]; rfl) (by kernel_rfl) (by kernel_rfl) (by kernel_rfl) (fun _ _ _ h => h) (Or.inl ⟨by rfl, ?_⟩) (by assumption) ?_
  rotate_left
  · (intro wS hSw; (try dsimp only at hSw); go_simp; try (with_reducible rfl))
  try simp only [Act.put, List.setIfInBounds_toArray, List.set_cons_zero, List.set_cons_succ]
  refine wpAnyH_take (i := 5) (oi := _) (v := ?_) (by simp only [List.getElem?_toArray, List.getElem?_cons_succ, List.getElem?_cons_zero]; rfl) (by kernel_rfl) (by kernel_rfl) (by kernel_rfl) (fun _ _ _ h => h) (Or.inl ⟨by rfl, ?_⟩) (by assumption) ?_
  rotate_left
  · (intro wS hSw; (try dsimp only at hSw); go_simp; try (with_reducible rfl))
  try simp only [Act.put, List.setIfInBounds_toArray, List.set_cons_zero, List.set_cons_succ]
  refine wpAnyH_ready (rs := [6]) (by kernel_rfl) (by simp) ?_
  refine AllReadyH.cons (o := _) (by simp only [List.getElem?_toArray, List.getElem?_cons_succ, List.getElem?_cons_zero]; rfl) (fun K1 hK1 => ?_) AllReadyH.nil
  go_simp
  refine (page_st s11.drew (hB.below s11.drew.below) hlb').mono ?_; rintro e w12 ⟨g12, c12, rfl, s12, o12, _, b12⟩; have q12 := o12.conv (by omega); rw [← HB.out] at q12
  go_wp2_with fail
  refine hK1.out _ _ (by exact HY.out _ (b12.block G2 hG2)) (fun hS1 => ?_)
  clear hK1 K1
  try simp only [Act.put, List.setIfInBounds_toArray, List.set_cons_zero, List.set_cons_succ]
  refine wpAnyH_ready (rs := [7]) (by kernel_rfl) (by simp) ?_
  refine AllReadyH.cons (o := _) (by simp only [List.getElem?_toArray, List.getElem?_cons_succ, List.getElem?_cons_zero]; rfl) (fun K2 hK2 => ?_) AllReadyH.nil
  go_simp
  refine hK2.out _ _ (by assumption) (fun hS2 => ?_)
  clear hK2 K2
  try simp only [Act.put, List.setIfInBounds_toArray, List.set_cons_zero, List.set_cons_succ]
  refine wpAnyH_take (i := 8) (oi := _) (v := ?_) (by simp only [List.getElem?_toArray, List.getElem?_cons_succ, List.getElem?_cons_zero]; rfl) (by kernel_rfl) (by kernel_rfl) (by kernel_rfl) (fun _ _ _ h => h) (Or.inl ⟨by rfl, ?_⟩) (by assumption) ?_
  rotate_left
  · (intro wS hSw; (try dsimp only at hSw); go_simp; try (with_reducible rfl))
  try simp only [Act.put, List.setIfInBounds_toArray, List.set_cons_zero, List.set_cons_succ]
  refine wpAnyH_take (i := 9) (oi := _) (v := ?_) (by simp only [List.getElem?_toArray, List.getElem?_cons_succ, List.getElem?_cons_zero]; rfl) (by kernel_rfl) (by kernel_rfl) (by kernel_rfl) (fun _ _ _ h => h) (Or.inl ⟨by rfl, ?_⟩) (by assumption) ?_
  rotate_left
  · (intro wS hSw; (try dsimp only at hSw); go_simp; try (with_reducible rfl))
  try simp only [Act.put, List.setIfInBounds_toArray, List.set_cons_zero, List.set_cons_succ]
  refine wpAnyH_take (i := 10) (oi := _) (v := ?_) (by simp only [List.getElem?_toArray, List.getElem?_cons_succ, List.getElem?_cons_zero]; rfl) (by kernel_rfl) (by kernel_rfl) (by kernel_rfl) (fun _ _ _ h => h) (Or.inl ⟨by rfl, ?_⟩) (by assumption) ?_
  rotate_left
  · (intro wS hSw; (try dsimp only at hSw); go_simp; try (with_reducible rfl))
  try simp only [Act.put, List.setIfInBounds_toArray, List.set_cons_zero, List.set_cons_succ]
  refine wpAnyH_ready (rs := [11]) (by kernel_rfl) (by simp) ?_
  refine AllReadyH.cons (o := _) (by simp only [List.getElem?_toArray, List.getElem?_cons_succ, List.getElem?_cons_zero]; rfl) (fun K3 hK3 => ?_) AllReadyH.nil
  go_simp
  refine (known_any w12).mono ?_; rintro e w13 ⟨rfl, hfin⟩
  go_wp2_with fail
  refine hK3.out _ _ (by exact HY.out _ ((hfin.block G2 (Nat.lt_of_lt_of_le hG2 b12.size)).trans (b12.block G2 hG2))) (fun hS3 => ?_)
  clear hK3 K3
  try simp only [Act.put, List.setIfInBounds_toArray, List.set_cons_zero, List.set_cons_succ]
  refine wpAnyH_take (i := 12) (oi := _) (v := ?_) (by simp only [List.getElem?_toArray, List.getElem?_cons_succ, List.getElem?_cons_zero]; rfl) (by kernel_rfl) (by kernel_rfl) (by kernel_rfl) (fun _ _ _ h => h) (Or.inl ⟨by rfl, ?_⟩) (by assumption) ?_
  rotate_left
  · (intro wS hSw; (try dsimp only at hSw); go_simp; try (with_reducible rfl))
  try simp only [Act.put, List.setIfInBounds_toArray, List.set_cons_zero, List.set_cons_succ]
  refine wpAnyH_take (i := 13) (oi := _) (v := ?_) (by simp only [List.getElem?_toArray, List.getElem?_cons_succ, List.getElem?_cons_zero]; rfl) (by kernel_rfl) (by kernel_rfl) (by kernel_rfl) (fun _ _ _ h => h) (Or.inl ⟨by rfl, ?_⟩) (by assumption) ?_
  rotate_left
  · (intro wS hSw; (try dsimp only at hSw); go_simp; try (with_reducible rfl))
  try simp only [Act.put, List.setIfInBounds_toArray, List.set_cons_zero, List.set_cons_succ]
  refine wpAnyH_done (by kernel_rfl) ?_ _
  refine NoPanic.normal ?_
  go_wp2_with fail
  go_ret
  exact ⟨rfl, below_then s12.below hfin⟩
end Go.Proofs.Ytlgbdpdghgmmoaa
