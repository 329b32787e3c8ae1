/-
  The walk of the law DevicePlays.
-/
import Derived.Test.YtlgbdpdghgmmoaaPl
namespace Go.Proofs.Ytlgbdpdghgmmoaa
open Go.RowKit

theorem pst_new {w0 w1 w2 : World} {D B R X n m : Nat} (s : St w0 w1 D B n m (fun _ => zeroPage)) (r : Ref w2 R X n (fun _ => ByteArray.empty)) (h : Below w1.heap.size w1 w2) (hR : w1.heap.size ≤ R) (hX : w1.heap.size ≤ X) :
    PSt w0 w2 D B R X n m (fun _ => zeroPage) (fun _ => ByteArray.empty) := by
  have h1 := s.dev.ltD
  have h2 := s.dev.ltB
  have h3 := s.below.size
  exact ⟨s.belowW h, r, by omega, by omega, by omega, by omega, by omega, relS_new n, u8_zero n⟩

set_option maxRecDepth 100000 in
set_option maxHeartbeats 4000000 in
theorem plays_any (slots : Int) (a : Option Addr) (len cap b off : Nat) (P : Nat → Op1) (w : World) (o : OpsAt w a len b off P) (hlen : len ≤ 9223372036854775807) :
    Calls Try.prog 5 #[.int .i64 slots, .slice a len cap] w fun e w' => e = .returned (.bool true) ∧ Below w.heap.size w w' := by
  by_cases g3 : 60 < len
  · go_enter Try.func5, Try.ntmps5
    go_wp2_with (go_at_call 8; refine (known_any w).mono ?_; rintro e w' ⟨rfl, hb⟩)
    go_ret
    exact ⟨rfl, hb⟩
  go_enter Try.func5, Try.ntmps5
  go_wp2_with fail
  refine (new_st (Below.refl _ w) slots rfl).mono ?_
  rintro e w1 ⟨rfl, s1⟩
  go_wp2_with fail
  refine (ref_new slots w1).mono ?_
  rintro e w2 ⟨rfl, r2, b2⟩
  have s2 := pst_new s1 r2 b2 (by omega) (by omega)
  clear s1 r2 b2
  generalize hD : w.heap.size + 1 = D at *
  generalize hB : w.heap.size = B at s2
  generalize w1.heap.size + 1 = R at *
  generalize w1.heap.size = X at *
  generalize clampN slots = n at *
  have r0 := s2.ref.r0
  go_wp2_with fail
  go_quiet ((go_at_call 14; refine Calls.quiet_of_same ((slots_any (s2.below (below_drewN (Below.refl _ _) _)).st.dev).mono fun _ _ ⟨he, hw⟩ => ⟨he, hw.symm⟩)))
  have s3 := s2.below (below_drewN (Below.refl _ _) nq)
  generalize w2.drewN nq = w3 at *
  clear s2 r0
  go_wp2_with fail
  go_loopw [5, 40] (fun d i wr => ∃ (k D B m : Nat) (f : Slots) (S : Nat → ByteArray), k ≤ len ∧ i = .int .i64 k ∧ d = .pointer (some ⟨D, 0, none⟩) ∧ PSt w wr D B R X n m f S) (fun _ i _ => len - (intOf i).toNat)
  case atStart => exact ⟨0, D, B, n, _, _, Nat.zero_le _, rfl, rfl, s3⟩
  case round =>
    clear s3 hD hB
    obtain ⟨k, D, B, m, f, S, hk, rfl, rfl, s⟩ := hrel
    by_cases hlt : k < len
    · have p := (o.below s.st.below).op k hlt
      obtain rfl := o.at_ (by omega)
      have c0 := p.c0
      have c1 := p.c1
      have c2 := p.c2
      have c3 := p.c3
      have c4 := p.c4
      by_cases h600 : 600 < (P k).n
      · go_wp2_with fail
        refine (known_any _).mono ?_
        rintro e w' ⟨rfl, hb⟩
        go_wp2_with fail
        go_ret
        exact ⟨rfl, below_then (below_alloc s.st.below _) hb⟩
      · have hpb := (o.op k hlt).bytes.lt
        have pn := one_new p
        have hbp := p.bytes.u8
        have sn := s.below ((Below.refl wr.heap.size wr).alloc (Nat.le_refl _) (.cells #[.int .i64 (P k).kind, .int .i64 (P k).slot, .slice (P k).a (P k).n (P k).c, .bool (P k).short, .bool (P k).fail] 36))
        have hQ : wr.heap.size < (wr.alloc (.cells #[.int .i64 (P k).kind, .int .i64 (P k).slot, .slice (P k).a (P k).n (P k).c, .bool (P k).short, .bool (P k).fail] 36)).heap.size := by simp
        have hlts := s.lts
        rcases Decidable.em ((P k).kind = 0) with hk0 | hk0
        case' inl =>
          have q0 : ((P k).kind == 0) = true := by rw [hk0]; rfl
          have q02 : ((P k).kind == 2) = false := by rw [hk0]; rfl
          obtain ⟨i0, hi, hz0, hz1, hz2⟩ := info_parts info5
          have hbL : ∀ x ∈ bytesL (P k), 0 ≤ x ∧ x ≤ 255 := bytesL_u8 hbp
          clear hk0
          go_wp2_with fail
          have hW1 : (wr.alloc (.cells #[.int .i64 (P k).kind, .int .i64 (P k).slot, .slice (P k).a (P k).n (P k).c, .bool (P k).short, .bool (P k).fail] 36)).heap.size = wr.heap.size + 1 := by simp
          generalize wr.heap.size = Q at *
          generalize wr.alloc (.cells #[.int .i64 (P k).kind, .int .i64 (P k).slot, .slice (P k).a (P k).n (P k).c, .bool (P k).short, .bool (P k).fail] 36) = W1 at *
          have hb1 : Below W1.heap.size W1 (W1.alloc (.cells #[] 5)) := (Below.refl _ _).alloc (Nat.le_refl _) _
          refine (bytes_any (P k) (pn.bytes.below hb1) (by omega)).mono ?_
          rintro e W3 ⟨a1, l1, cp1, bb1, oo1, rfl, ob, hl1, hb3⟩
          have hown3 := own_later hb3
          have s3 := (sn.below hb1).below hb3
          have p3 := (pn.below hb1).below hb3
          have hW13 : W1.heap.size < W3.heap.size := by have := hb3.size; simp at this; omega
          have hL1 := ob.len_
          have hnil := ob.nil
          have hle1 := ob.le
          have hcell : 0 < l1 → ∀ j u, ((bytesL (P k)).map (Value.int .u8))[j]? = some u → ∀ ad, a1 = some ad → W3.cell? (ad.add j) = some u := fun hl0 j u hj ad had => by
            have hjl : j < (bytesL (P k)).length := by
              have := (List.getElem?_eq_some_iff.1 hj).1
              simpa using this
            have := ob.at_ hl0
            rw [had] at this
            cases this
            have hadd : (⟨bb1, oo1, none⟩ : Addr).add j = ⟨bb1, oo1 + j, none⟩ := by unfold Addr.add; split <;> simp_all
            rw [hadd, ob.cell j (by omega), ← hj]
            simp [hjl]
          have hW3 := hb3.size
          rw [hW1] at hown3
          clear hb1 hb3 pn sn p s c0 c1 c2 c3 c4
          rcases a1 with _ | ad
          case' none =>
            obtain rfl : cp1 = 0 := hnil rfl
            have hl0 : l1 = 0 := by omega
            have d1 : W3.cell? ⟨Q, 1, none⟩ = some (.int .i64 (P k).slot) := p3.c1
            have d4 : W3.cell? ⟨Q, 4, none⟩ = some (.bool (P k).fail) := p3.c4
            have hLn : bytesL (P k) = [] := List.eq_nil_of_length_eq_zero (by omega)
            rw [hl0]
            go_wp2_with (at_builtin; refine wpList_append_own_none rfl (.tmp 56) (.tmp 58) 22 rfl (Q + 1) 5 i0 1 Try.underlying22 hi _ 0 [] rfl hown3 rfl ?_)
            obtain ⟨g, cpg, hv, hg, hgl, fr⟩ := fresh_of_own (w0 := W1) (L := bytesL (P k)) (by rw [hLn, hl0]; exact hown3) (Nat.le_of_eq hW1) (by simp) hL1 hbL
            have s4 := s3
            have p4 := p3
            rw [hv]
            clear hv hl0 hLn
          case' some =>
            have hnews : ∀ j u, ((bytesL (P k)).map (Value.int .u8))[j]? = some u → W3.cell? (ad.add j) = some u := fun j u hj => by
              have hjl := (List.getElem?_eq_some_iff.1 hj).1
              rw [List.length_map] at hjl
              exact hcell (by omega) j u hj ad rfl
            have hll : ((bytesL (P k)).map (Value.int .u8)).length = l1 * 1 := by rw [List.length_map, hL1, Nat.mul_one]
            have HN := Lib.hid hnews
            have HL := Lib.hid hll
            have hml : 0 + l1 ≤ maxLen := by unfold maxLen; omega
            have hbl : (0 + l1) * 1 ≤ 140737488355328 := by omega
            have hbs : Q + 1 ≤ W3.heap.size := by omega
            clear hcell hnews hll ob
            go_wp2_with (at_builtin; refine wpList_append_own _ rfl (.tmp 56) (.tmp 58) 22 rfl (Q + 1) 5 i0 (.int .u8 0) 1 1 Try.underlying22 hi hz0 hz1 hz2 rfl (by omega) (.slice (some ⟨Q + 1, 0, none⟩) 0 0) 0 [] rfl hown3 ad l1 cp1 ((bytesL (P k)).map (Value.int .u8)) rfl HL.out HN.out (ints_oneCell .u8 _) hml hbl hbs ?_)
            intro v1 W4 hown4 hgrow4 hnil4
            obtain ⟨g, cpg, rfl, hg, hgl, fr⟩ := fresh_of_own (w0 := W1) (L := bytesL (P k)) hown4 (Nat.le_of_eq hW1) hnil4 hL1 hbL
            have s4 := s3.fresh (g := Q + 1) hgrow4 (by omega) (by omega) (by omega) (by omega) (by omega)
            have p4 := p3.only (g := Q + 1) hgrow4 (by omega) (fun h => by have := hpb h; omega)
            clear hnil4 hgrow4 hown4 hown3
            have d1 : W4.cell? ⟨Q, 1, none⟩ = some (.int .i64 (P k).slot) := p4.c1
            have d4 : W4.cell? ⟨Q, 4, none⟩ = some (.bool (P k).fail) := p4.c4
            go_wp2_with fail
          all_goals
            have hg0 := s4.lts
            clear d1 d4 s3 p3
            refine (s4.write1 (P k).slot fr.bytes (by omega) (P k).fail).mono ?_
            rintro e W5 ⟨rfl, t5, r5, on5⟩
            have p5 := p4.only on5 (by omega) (fun h => by have := hpb h; have := s4.st.own; omega)
            have d1 : W5.cell? ⟨Q, 1, none⟩ = some (.int .i64 (P k).slot) := p5.c1
            have d4 : W5.cell? ⟨Q, 4, none⟩ = some (.bool (P k).fail) := p5.c4
            go_wp2_with fail
            refine (write2 s4 (P k).slot (P k).fail hbL t5 r5 (fr.bytes.only on5 (by omega)) (by omega)).mono ?_
            rintro e W6 ⟨rfl, s6, on6⟩
            have p6 := p5.only on6 (by omega) (fun h => by have := hpb h; have := s4.ownX; omega)
            have fr6 := (fr.only on5 (by omega)).only on6 (by omega)
            have hg6 : g < W6.heap.size := by have := on5.size; have := on6.size; omega
            clear d1 d4 p4 p5 fr on5 on6 t5 r5 s4
            go_wp2_with fail
            go_loopw [78] (fun i wr => ∃ j : Nat, j ≤ l1 ∧ i = .int .i64 j ∧ Scr W6 wr (some ⟨g, 0, none⟩) l1 cpg g) (fun i _ => l1 - (intOf i).toNat)
            case atStart => exact ⟨0, Nat.zero_le _, rfl, fr6.scr⟩
            case' round =>
              obtain ⟨j, hj, rfl, sc⟩ := hrel
              rcases Decidable.em (j < l1) with hjl | hjl
              case inl =>
                obtain ⟨x, hx0, hx1, hx⟩ := sc.cell hjl
                have hsoft := sc.soft j hjl
                have hcap := fr6.bytes.le
                first
                  | (exfalso; omega)
                  | (go_wp2_with fail
                     go_roundw
                     case rel => exact ⟨j + 1, by omega, by go_num, sc.set hjl (v := (x + 1) % 256) (by omega) (by omega)⟩
                     case measure => simp [intOf]; omega)
              case' inr =>
                have s7 := s6.fresh sc.only (by omega) (by omega) (by omega) (by omega) (by omega)
                have p7 := p6.only sc.only (by omega) (fun h => by have := hpb h; omega)
                have d1 : wr.cell? ⟨Q, 1, none⟩ = some (.int .i64 (P k).slot) := p7.c1
                have d4 : wr.cell? ⟨Q, 4, none⟩ = some (.bool (P k).fail) := p7.c4
                generalize (writeF n f (P k).slot (bytesL (P k)) (P k).fail).2 = f7 at s7
                generalize writeS n S (P k).slot (bytesL (P k)) (P k).fail = S7 at s7
                clear sc p6 s6 fr6
                go_wp2_with fail
        case' inr =>
          have q0 : ((P k).kind == 0) = false := beq_eq_false_iff_ne.2 hk0
          rcases Decidable.em ((P k).kind = 2) with hk2 | hk2
          case' inr =>
            have q2 : ((P k).kind == 2) = false := beq_eq_false_iff_ne.2 hk2
            clear hk0 hk2
            go_wp2_with fail
            generalize wr.heap.size = Q at *
            generalize wr.alloc (.cells #[.int .i64 (P k).kind, .int .i64 (P k).slot, .slice (P k).a (P k).n (P k).c, .bool (P k).short, .bool (P k).fail] 36) = W1 at *
            have s7 := sn
            have p7 := pn
            have d1 : W1.cell? ⟨Q, 1, none⟩ = some (.int .i64 (P k).slot) := p7.c1
            have d4 : W1.cell? ⟨Q, 4, none⟩ = some (.bool (P k).fail) := p7.c4
            clear sn pn s p c0 c1 c2 c3 c4
          case' inl =>
            have q2 : ((P k).kind == 2) = true := by rw [hk2]; rfl
            clear hk0 hk2
            go_wp2_with fail
            generalize wr.heap.size = Q at *
            generalize wr.alloc (.cells #[.int .i64 (P k).kind, .int .i64 (P k).slot, .slice (P k).a (P k).n (P k).c, .bool (P k).short, .bool (P k).fail] 36) = W1 at *
            refine (copy_any sn.st.dev).mono ?_
            rintro e W2 ⟨D', B', m', rfl, hD', hB', dv, hb2⟩
            have sc := sn.below hb2
            have pc := pn.below hb2
            have r0 := sc.ref.r0
            have hn := sc.ref.le
            have hlt2 := sn.lts
            have hsz := hb2.size
            have hownB := sn.st.own
            have hnXB := sn.neXB
            have hnRB := sn.neRB
            have cs : PSt w W2 D' B' R X n m' f S := ⟨⟨dv, sc.st.below, by omega, by omega⟩, sc.ref, sc.ownR, sc.ownX, by omega, by omega, by omega, sc.rel, sc.u8⟩
            rcases Decidable.em (n = 0) with hn0 | hn0
            case' inl =>
              have r0' : W2.cell? ⟨R, 0, none⟩ = some (.int .i64 0) := by rw [r0, hn0]; rfl
              have HN0 := Lib.hid hn0
              clear r0 hn0
              have d1 : W2.cell? ⟨Q, 1, none⟩ = some (.int .i64 (P k).slot) := pc.c1
              have d4 : W2.cell? ⟨Q, 4, none⟩ = some (.bool (P k).fail) := pc.c4
              have s7 := cs
              have p7 := pc
              clear cs pc sc sn pn s p c0 c1 c2 c3 c4 dv hb2
              go_wp2_with fail
            case' inr =>
              have hn1 : 0 < n := by omega
              clear hn0 s p c0 c1 c2 c3 c4 sn pn dv
              go_wp2_with fail
              have hb3 : Below W2.heap.size W2 (W2.alloc (.cells #[.int .u8 99] 5)) := (Below.refl _ _).alloc (Nat.le_refl _) _
              refine (page_st (sc.below hb3).st (one_byte W2 99 (by omega) (by omega)) (by omega)).mono ?_
              rintro e W3 ⟨g3, c3, rfl, s3, o3, hg3, hb4⟩
              have ew : writeF n f 0 (pad [99]) false = (0, updS f 0 (pad [99])) := write_good (k := 0) hn1 (pad_len (by decide))
              have EW := Lib.hid ew
              clear ew
              have cs3 := (cs.below hb3).below hb4
              have pc3 := (pc.below hb3).below hb4
              clear sc cs pc hb3 hb4 hb2
              go_wp2_with fail
              refine (write_st s3 0 o3 (by omega) false EW.out).mono ?_
              rintro e W4 ⟨rfl, _, on4⟩
              have s7 := cs3.fresh on4 (by omega) (by omega) (by omega) (by omega) (by omega)
              have p7 := pc3.only on4 (by omega) (fun h => by have := hpb h; omega)
              have d1 : W4.cell? ⟨Q, 1, none⟩ = some (.int .i64 (P k).slot) := p7.c1
              have d4 : W4.cell? ⟨Q, 4, none⟩ = some (.bool (P k).fail) := p7.c4
              clear cs3 pc3 on4 s3 o3
              go_wp2_with fail
        all_goals
          refine (read_any s7.st.dev s7.u8 (P k).slot (P k).fail).mono ?_
          rintro e W8 ⟨a8, l8, c8, b8, rfl, fr8, hl8, hb8⟩
          have hlt7 := s7.lts
          have hown8 := fr8.own
          have s8 := s7.below hb8
          have p8 := p7.below hb8
          clear s7 p7 d1 d4
          have d1 : W8.cell? ⟨Q, 1, none⟩ = some (.int .i64 (P k).slot) := p8.c1
          have d4 : W8.cell? ⟨Q, 4, none⟩ = some (.bool (P k).fail) := p8.c4
          go_wp2_with fail
          refine (ref_read s8.ref s8.rel s8.u8 (P k).slot (P k).fail).mono ?_
          rintro e W9 ⟨a9, l9, c9, b9, rfl, fr9, hl9, hb9⟩
          have k8 := conv_any fr8.bytes (w' := W9) (fun h => hb9.block b8 (fr8.bytes.lt h))
          have k9 := conv_any fr9.bytes (w' := W9) (fun _ => rfl)
          have s9 := s8.below hb9
          have fr := fr8.below hb9
          clear s8 fr9 fr8 hb9 d1 d4 p8
          go_wp2_with fail
          go_loopw [135] (fun i wr => ∃ j : Nat, j ≤ l8 ∧ i = .int .i64 j ∧ Scr W9 wr a8 l8 c8 b8) (fun i _ => l8 - (intOf i).toNat)
          case atStart => exact ⟨0, Nat.zero_le _, rfl, fr.scr⟩
          case round =>
            obtain ⟨j, hj, rfl, sc⟩ := hrel
            by_cases hjl : j < l8
            · obtain ⟨x, hx0, hx1, hx⟩ := sc.cell hjl
              have hsoft := sc.soft j hjl
              have hcap := fr.bytes.le
              obtain rfl := fr.bytes.at_ (by omega)
              go_wp2_with fail
              go_roundw
              case rel => exact ⟨j + 1, by omega, by go_num, sc.set hjl (v := (x + 1) % 256) (by omega) (by omega)⟩
              case measure => simp [intOf]; omega
            · have s10 := s9.fresh sc.only (by omega) (by omega) (by omega) (by omega) (by omega)
              go_wp2_with fail
              go_roundw
              case rel => first | exact ⟨k + 1, _, _, _, _, _, by omega, by go_num, rfl, s10⟩ | ((repeat apply Exists.intro); exact ⟨⟨k + 1, _, _, _, _, _, by omega, by go_num, rfl, s10⟩, rfl⟩)
              case measure => simp [intOf]; omega
    · go_wp2_with fail
      go_loopw [18] (fun i wr => ∃ j : Nat, i = .int .i64 j ∧ j ≤ n ∧ PSt w wr D B R X n m f S) (fun i _ => n - (intOf i).toNat)
      case atStart => exact ⟨0, rfl, Nat.zero_le _, s⟩
      case round =>
        obtain ⟨j, rfl, hj, s⟩ := hrel
        have r0 := s.ref.r0
        have hn := s.ref.le
        by_cases hjn : j < n
        · by_cases h40 : j < 40
          · have eb : badI n (j : Int) = false := badI_nat hjn
            have er : readL n f (j : Int) false = (f j, 0) := by unfold readL; rw [eb]; rfl
            go_wp2_with fail
            refine (read_any s.st.dev s.u8 (j : Int) false).mono ?_
            rintro e W8 ⟨a8, l8, c8, b8, rfl, fr8, hl8, hb8⟩
            have s8 := s.below hb8
            rw [er] at fr8
            rw [er]
            go_wp2_with fail
            refine (ref_read s8.ref s8.rel s8.u8 (j : Int) false).mono ?_
            rintro e W9 ⟨a9, l9, c9, b9, rfl, fr9, hl9, hb9⟩
            rw [er] at fr9
            have k8 := conv_any fr8.bytes (w' := W9) (fun h => hb9.block b8 (fr8.bytes.lt h))
            have k9 := conv_any fr9.bytes (w' := W9) (fun _ => rfl)
            have s9 := s8.below hb9
            generalize strOfNums (f j) = z at k8 k9
            clear fr8 fr9 s8 hb8 hb9
            go_wp2_with fail
            go_roundw
            case rel => exact ⟨j + 1, by go_num, by omega, s9⟩
            case measure => simp [intOf]; omega
          · go_wp2_with fail
            refine (known_any wr).mono ?_
            rintro e w' ⟨rfl, hb⟩
            go_wp2_with fail
            go_ret
            exact ⟨rfl, below_then s.st.below hb⟩
        · go_wp2_with fail
          refine (known_any wr).mono ?_
          rintro e w' ⟨rfl, hb⟩
          go_wp2_with fail
          go_ret
          exact ⟨rfl, below_then s.st.below hb⟩
end Go.Proofs.Ytlgbdpdghgmmoaa
