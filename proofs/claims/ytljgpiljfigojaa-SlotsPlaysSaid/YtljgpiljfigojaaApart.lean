/-
  The walk of the law SlotsApart.
-/
import Derived.Test.YtljgpiljfigojaaApartP
import Derived.Deep.RegionHeld3
namespace Go.Proofs.Ytljgpiljfigojaa
open Go.RowKit

/-- Rows of different elements are different blocks. -/
theorem OwnAt.ne_own {w : World} {base e size n c g : Nat} {a : Option Addr} {xs : List Value} {base' e' size' n' c' g' : Nat} {a' : Option Addr} {xs' : List Value} (h : OwnAt w base e size a n c g xs) (h' : OwnAt w base' e' size' a' n' c' g' xs') (ht : e ≠ e') : a ≠ none → a' ≠ none → g ≠ g' := by
  rintro ha ha' rfl
  rcases h.own.2 with ⟨h1, h2⟩ | ⟨x, cap, cur, h1, hb, hg, _⟩
  · cases h1; exact ha rfl
  · rcases h'.own.2 with ⟨h1', h2'⟩ | ⟨x', cap', cur', h1', hb', hg', _⟩
    · cases h1'; exact ha' rfl
    · cases h1
      cases h1'
      have e1 := (h.blk _ rfl).1
      have e2 := (h'.blk _ rfl).1
      cases e1
      cases e2
      rw [hg] at hg'
      injection hg' with hg'
      injection hg' with _ ht'
      exact ht ht'
section
variable {w0 w w' : World} {S B n c : Nat} {f : Sl}
theorem take_o (s : St w0 w S B n c f) (pid page : Int) {k e : Int} {f' : Sl} (h : takeF n f pid page = (k, e, f')) :
    Calls Try.prog 10 #[.pointer (some ⟨S, 0, none⟩), .int .i64 pid, .int .i64 page] w fun r w' => r = .returned (.tuple #[.int .i64 k, .int .i64 e]) ∧ St w0 w' S B n c f' ∧ Only w w' B := by
  have := take_any s.ss pid page
  rw [h] at this
  exact this.mono fun _ _ ⟨he, t, o⟩ => ⟨he, s.only t o, o⟩
theorem free_o (s : St w0 w S B n c f) (slot : Int) {e : Int} {f' : Sl} (h : freeF n f slot = (e, f')) :
    Calls Try.prog 12 #[.pointer (some ⟨S, 0, none⟩), .int .i64 slot] w fun r w' => r = .returned (.int .i64 e) ∧ St w0 w' S B n c f' ∧ Only w w' B := by
  have := free_any s.ss slot
  rw [h] at this
  exact this.mono fun _ _ ⟨he, t, o⟩ => ⟨he, s.only t o, o⟩
theorem owner_o (s : St w0 w S B n c f) (slot : Int) {p : Int × Int} (h : ownerF n f slot = p) :
    Calls Try.prog 14 #[.pointer (some ⟨S, 0, none⟩), .int .i64 slot] w fun r w' => r = .returned (.tuple #[.int .i64 p.1, .int .i64 p.2, .bool (p.1 != 0)]) ∧ Below w.heap.size w w' := by
  subst h
  exact owner_any s.ss slot
theorem used_o (s : St w0 w S B n c f) {u : Nat} (h : (usedL n f).length = u) :
    Calls Try.prog 11 #[.pointer (some ⟨S, 0, none⟩)] w fun r w' => r = .returned (.int .i64 (u : Int)) ∧ Below w.heap.size w w' := by
  subst h
  exact used_any s.ss
theorem St.of_blocks (s : St w0 w S B n c f) (hb : Below w0.heap.size w0 w') (hs : w.heap.size ≤ w'.heap.size) (h1 : w'.heap[S]? = w.heap[S]?) (h2 : w'.heap[B]? = w.heap[B]?) : St w0 w' S B n c f := ⟨s.ss.of_blocks hs h1 h2, hb, s.own⟩
end

/-- A call, as the law has it in a block of its own. -/
def boxV (V : Nat → Int) (i : Nat) : Value := .int .i64 (V i)
theorem box_new (w : World) (V : Nat → Int) : (w.alloc (.cells #[.int .i64 (V 0), .int .i64 (V 1), .int .i64 (V 2), .int .i64 (V 3)] 34)).rowIs w.heap.size 34 4 (boxV V) :=
  World.rowIs_alloc w #[.int .i64 (V 0), .int .i64 (V 1), .int .i64 (V 2), .int .i64 (V 3)] 34 (boxV V) (fun i hi => by
    rcases (show i = 0 ∨ i = 1 ∨ i = 2 ∨ i = 3 by simp at hi; omega) with rfl | rfl | rfl | rfl <;> rfl)
theorem box_at {w : World} {Q : Nat} {V : Nat → Int} (r : w.rowIs Q 34 4 (boxV V)) {j : Nat} (hj : j < 4) : w.cell? ⟨Q, j, none⟩ = some (.int .i64 (V j)) := r.cell hj
def setV (V : Nat → Int) (x : Int) : VRow := fun j => if j = 1 then x else V j
theorem box_set {w : World} {Q : Nat} {V : Nat → Int} (r : w.rowIs Q 34 4 (boxV V)) (x : Int) : (w.setCell ⟨Q, 1, none⟩ (.int .i64 x)).rowIs Q 34 4 (boxV (setV V x)) :=
  (r.set 1 _).congr fun i _ => by unfold boxV setV; split <;> rfl
theorem info34 : (Try.prog.info? 34).map (fun i => (i.zero, i.size, i.bytes)) = some (some (.agg #[.int .i64 0, .int .i64 0, .int .i64 0, .int .i64 0]), 4, 32) := by kernel_rfl
theorem elem32 : Try.prog.elem 32 = 34 := by kernel_rfl

set_option maxRecDepth 100000 in
set_option maxHeartbeats 8000000 in
theorem apart_any (n : Int) (a : Option Addr) (len cap bo off : Nat) (V : Nat → Nat → Int) (w : World) (o : OpsI w a len bo off 4 V) (hlen : len ≤ 9223372036854775807) :
    Calls Try.prog 4 #[.int .i64 n, .slice a len cap] w fun e w' => e = .returned (.bool true) ∧ Below w.heap.size w w' := by
  by_cases h1 : 200 < len
  · go_enter Try.func4, Try.ntmps4
    go_wp2_with fail
    refine (known_any w).mono ?_
    rintro e w' ⟨rfl, hb⟩
    go_wp2_with fail
    go_ret
    exact ⟨rfl, hb⟩
  have d2 : decide ((200 : Int) < (len : Int)) = false := by simp; omega
  have d3 : decide (200 < len) = false := by simp; omega
  go_enter Try.func4, Try.ntmps4
  go_wp2_with fail
  refine (new_st (Below.refl _ w) n rfl).mono ?_
  rintro e w1 ⟨rfl, s1⟩
  have hN := clampN_le n
  clear d2 d3
  generalize hS : w.heap.size + 1 = S at *
  generalize hB : w.heap.size = B at s1
  have HB := Lib.hid hB; clear hB hS
  generalize clampN n = N at *
  go_wp2_with fail
  go_loopw [6, 25] (fun v i wr => ∃ (k : Nat) (f : Sl) (l : List VRow) (a' : Option Addr) (c' g : Nat), k ≤ len ∧ i = .int .i64 k ∧ v = .slice a' l.length c' ∧ St w wr S B N N f ∧ OwnAt wr w.heap.size 34 4 a' l.length c' g (cellsR 4 l) ∧ Out N f l ∧ l.length ≤ k) (fun _ i _ => len - (intOf i).toNat)
  case atStart => exact ⟨0, _, [], none, 0, 0, by omega, rfl, rfl, s1, ⟨World.ownsRow_nil _ _ _ _, fun h => absurd h (Nat.lt_irrefl _), fun b h => by cases h⟩, out_new _, Nat.le_refl _⟩
  case round =>
    clear s1
    obtain ⟨k, f, l, a', c', g, hk, rfl, rfl, s, oa, ou, hl⟩ := hrel
    by_cases hlt : k < len
    · have o' := o.below s.below
      have ck := o'.c0 hlt (by omega)
      have c1 := o'.cell k hlt 1 (by omega)
      have c2 := o'.cell k hlt 2 (by omega)
      have c3 := o'.cell k hlt 3 (by omega)
      obtain rfl := o.at_ (by omega)
      have bn := below_new wr (.cells #[.int .i64 (V k 0), .int .i64 (V k 1), .int .i64 (V k 2), .int .i64 (V k 3)] 34)
      have sn := s.belowW bn
      have on := oa.below bn
      have qn := box_new wr (V k)
      have hgQ : a' ≠ none → g < wr.heap.size := fun ha => by
        cases a' with
        | none => exact absurd rfl ha
        | some ad => exact (oa.blk ad rfl).2.2
      have hQ0 : w.heap.size ≤ wr.heap.size := s.below.size
      have hle := on.le
      unfold maxLen at hle
      obtain ⟨m, hm⟩ : ∃ m, l.length = m := ⟨_, rfl⟩
      have hcnt := ou.cnt
      rw [hm] at hl on hle hcnt ⊢
      have HM := Lib.hid hm
      clear hm bn s oa o'
      have g0 : (rowI 4 (V k)) = [.int .i64 (V k 0), .int .i64 (V k 1), .int .i64 (V k 2), .int .i64 (V k 3)] := rfl
      obtain ⟨i0, hi, hz0, hz1, hz2⟩ := info_parts info34
      clear g0
      have takes : ∀ (T : Prop), (T → False) → True := fun _ _ => trivial
      clear takes
      have h3 : (V k 0 = 1 ∧ 0 < m) ∨ (V k 0 = 1 ∧ m = 0) ∨ V k 0 ≠ 1 := by
        rcases Decidable.em (V k 0 = 1) with h | h
        · rcases Nat.eq_zero_or_pos m with h' | h'
          · exact .inr (.inl ⟨h, h'⟩)
          · exact .inl ⟨h, h'⟩
        · exact .inr (.inr h)
      rcases h3 with hbr | hbr | hbr
      case' inl =>
        have q0 : (V k 0 != 1) = false := by rw [hbr.1]; rfl
        have qm : ((m : Int) == 0) = false := beq_eq_false_iff_ne.2 (by omega)
        have qm' : (m == 0) = false := beq_eq_false_iff_ne.2 (by omega)
        have hmp := hbr.2
        have hm0 : (0 : Int) < (m : Int) := by omega
        obtain ⟨x, hxm, hT⟩ : ∃ x : Nat, x < m ∧ (IntKind.u64.wrap (V k 1)).tmod (m : Int) = (x : Int) := by
          have h5 : 0 ≤ IntKind.u64.wrap (V k 1) := by rw [IntKind.wrap_u64]; omega
          have h6 := Int.emod_nonneg (IntKind.u64.wrap (V k 1)) (show (m : Int) ≠ 0 by omega)
          have h7 := Int.emod_lt_of_pos (IntKind.u64.wrap (V k 1)) hm0
          refine ⟨((IntKind.u64.wrap (V k 1)) % (m : Int)).toNat, by omega, ?_⟩
          rw [Int.tmod_eq_emod_of_nonneg h5]
          omega
        have hU : IntKind.u64.wrap (m : Int) = (m : Int) := by rw [IntKind.wrap_u64]; omega
        have hI : IntKind.i64.wrap (x : Int) = (x : Int) := by rw [IntKind.wrap_i64]; omega
        obtain ⟨vx, hvx, hvm⟩ := row_at (l := l) (i := x) (by rw [HM.out]; exact hxm)
        obtain ⟨sx, hs1, hs2, hs3, hs4⟩ := ou.at_ vx hvm
        have ou7 := out_drop ou hvx hs1
        have e1 : freeF N f (vx 1) = (0, updS f sx (0, 0)) := by rw [hs1]; exact freeF_at hs2 (by rw [hs3]; exact hs4)
        have e2 : freeF N (updS f sx (0, 0)) (vx 1) = (7, updS f sx (0, 0)) := by rw [hs1]; unfold freeF; rw [badI_nat hs2]; simp [updS_same]
        have E1 := Lib.hid e1
        have E2 := Lib.hid e2
        have HV := Lib.hid hvx
        have cx := on.row hvx (j := 1) (by omega)
        obtain rfl := on.at_ hmp
        clear hbr e1 e2 hvx hvm hs1 hs2 hs3 hs4 ou
        go_wp2_with fail
        generalize wr.heap.size = Q at *
        generalize wr.alloc (.cells #[.int .i64 (V k 0), .int .i64 (V k 1), .int .i64 (V k 2), .int .i64 (V k 3)] 34) = W1 at *
        refine (free_o sn (vx 1) E1.out).mono ?_
        rintro e W2 ⟨rfl, s2, o2⟩
        have hneB : g ≠ B := on.ne_own sn.ss.own (by decide) (by simp) (by simp)
        have on2 := on.only o2 (fun _ => hneB)
        have cx2 := on2.row HV.out (j := 1) (by omega)
        clear cx
        go_wp2_with fail
        refine (free_o s2 (vx 1) E2.out).mono ?_
        rintro e W3 ⟨rfl, s3, o3⟩
        have on3 := on2.only o3 (fun _ => hneB)
        clear cx2 on on2 sn s2 qn
        have hto := run_slice_to Try.underlying32 elem32 hi g 0 m c' x (by omega)
        obtain ⟨A2, hfrom, hrd2⟩ := run_slice_from Try.underlying32 elem32 hi g 0 m c' (x + 1) (by omega) (by omega)
        have hrd := on3.rd
        rw [hz1] at hrd2
        have hE : (W3.alloc (.cells #[] 34)).drew.ownsRow w.heap.size 34 4 (.slice (some ⟨W3.heap.size, 0, none⟩) 0 0) 0 [] := own_empty W3 34 4 s3.below.size
        have hbE : Below W3.heap.size W3 (W3.alloc (.cells #[] 34)).drew := (below_alloc (Below.refl _ _) _).drew
        have hA : Rd (W3.alloc (.cells #[] 34)).drew 4 (some ⟨g, 0, none⟩) x ((cellsR 4 l).take (x * 4)) := (hrd.take (k := x) (by omega)).below hbE
        have hBW : ∀ w1 : World, (W3.alloc (.cells #[] 34)).drew.grownBy w1 (some W3.heap.size) → Below W3.heap.size W3 w1 := fun _ hg => hbE.grown hg (by simp) (fun k hk => by cases hk; exact Nat.le_refl _)
        have hB2 : ∀ w1 : World, (W3.alloc (.cells #[] 34)).drew.grownBy w1 (some W3.heap.size) → Rd w1 4 A2 (m - (x + 1)) ((cellsR 4 l).drop ((x + 1) * 4)) := fun _ hg => hrd2 _ _ (hrd.below (hBW _ hg))
        have HB3 := Lib.hid (fun (w1 w2 : World) (v1 : Value) (hg : (W3.alloc (.cells #[] 34)).drew.grownBy w1 (some W3.heap.size)) (hat : v1.ownBlock = (Value.slice (some ⟨W3.heap.size, 0, none⟩) 0 0).ownBlock ∨ v1.ownBlock = some (W3.alloc (.cells #[] 34)).drew.heap.size) (hg2 : w1.grownBy w2 v1.ownBlock) =>
          show Below W3.heap.size W3 w2 from (hBW w1 hg).grown hg2 (hBW w1 hg).size (fun k hk => by
            rcases hat with e | e
            · rw [hk] at e; cases e; exact Nat.le_refl _
            · rw [hk] at e; cases e; exact hbE.size))
        have hO : ∀ k, ∀ u ∈ (cellsR 4 l).take k, u.oneCell' = true := fun k u hu => cellsR_one 4 l u (List.mem_of_mem_take hu)
        have hO2 : ∀ k, ∀ u ∈ (cellsR 4 l).drop k, u.oneCell' = true := fun k u hu => cellsR_one 4 l u (List.mem_of_mem_drop hu)
        have hsz : (cellsR 4 l).take (x * 4) ++ (cellsR 4 l).drop ((x + 1) * 4) = cellsR 4 (l.take x ++ l.drop (x + 1)) := by rw [cellsR_append, cellsR_take, cellsR_drop]
        have HZ := Lib.hid hsz
        have HN1 := Lib.hid (Nat.le_trans s3.below.size hbE.size)
        have HN2 := Lib.hid (fun (w1 : World) (hg : (W3.alloc (.cells #[] 34)).drew.grownBy w1 (some W3.heap.size)) => Nat.le_trans s3.below.size (hBW w1 hg).size)
        have HK := Lib.hid (show ((x : Int) + 1) = ((x + 1 : Nat) : Int) by omega)
        have hfrom' := fun W => by have := hfrom W; rw [← HK.out] at this; exact this
        have hk1 : IntKind.i64.wrap ((x : Int) + 1) = (x : Int) + 1 := by rw [IntKind.wrap_i64]; omega
        have HE := Lib.hid hE
        have HA := Lib.hid hA
        have HBW := Lib.hid hBW
        have HB2 := Lib.hid hB2
        have HO := Lib.hid hO
        have HO2 := Lib.hid hO2
        clear hE hA hBW hB2 hO hO2 hrd hrd2 hfrom hsz
        go_wp2_with fail
        go_region_held3 (fun _ => True) (trivial)
          (first
            | ((refine step_append_rd _ (by rfl) (.tmp 92) (.tmp 95) 32 (by rfl) w.heap.size 34 i0 _ 4 32 Try.underlying32 hi hz0 hz1 hz2 rfl (by omega) (.slice (some ⟨W3.heap.size, 0, none⟩) 0 0) 0 [] (by rfl) HE.out (some ⟨g, 0, none⟩) x c' ((cellsR 4 l).take (x * 4)) (by rfl) HA.out (HO.out _) (by unfold maxLen; omega) (by omega) HN1.out ?_; intro v1 w4 hown4 hgrow4 hat4 hnil4))
            | ((refine step_append_rd _ (by rfl) (.tmp 96) (.tmp 100) 32 (by rfl) w.heap.size 34 i0 _ 4 32 Try.underlying32 hi hz0 hz1 hz2 rfl (by omega) v1 (0 + x) ([] ++ (cellsR 4 l).take (x * 4)) (by rfl) hown4 A2 (m - (x + 1)) (c' - (x + 1)) ((cellsR 4 l).drop ((x + 1) * 4)) (by rfl) (HB2.out _ hgrow4) (HO2.out _) (by unfold maxLen; omega) (by omega) (HN2.out _ hgrow4) ?_; intro v2 w5 hown5 hgrow5 hat5 hnil5; obtain ⟨a7, c7, g7, rfl, _⟩ := own_at hown5)))
        have b5 := HB3.out _ _ _ hgrow4 hat4 hgrow5
        have s7 := s3.belowW b5
        obtain ⟨l7, hl7⟩ : ∃ l7, l.take x ++ l.drop (x + 1) = l7 := ⟨_, rfl⟩
        have hlen7 : x + (m - (x + 1)) = l7.length := by rw [← hl7, List.length_append, List.length_take, List.length_drop, HM.out]; omega
        have hown7 : w5.ownsRow w.heap.size 34 4 (.slice a7 (0 + x + (m - (x + 1))) c7) (0 + x + (m - (x + 1))) (cellsR 4 l7) := by rw [← hl7, ← HZ.out]; exact hown5
        rw [Nat.zero_add, hlen7] at hown7
        rw [hl7] at ou7
        have hm7 : l7.length ≤ k + 1 := by omega
        rw [hlen7]
        generalize updS f sx (0, 0) = f7 at *
        clear hown4 hown5 hgrow4 hgrow5 hat4 hat5 hnil4 hnil5 hl7 hlen7 hto hfrom' s3 o3 b5 HB3 HN1 HN2 HE HA HBW HB2 HO HO2 HZ E1 E2 HV o2 on3 hneB hgQ
        go_wp2_with fail
      case' inr.inl =>
        have q0 : (V k 0 != 1) = false := by rw [hbr.1]; rfl
        have qm : ((m : Int) == 0) = true := by rw [hbr.2]; rfl
        have qm' : (m == 0) = true := by rw [hbr.2]; rfl
        clear hbr
        rcases Bool.eq_false_or_eq_true (mayB (V k 2) (V k 3)) with hmay | hmay
        case inr =>
          have e1 : takeF N f (V k 2) (V k 3) = (0, 2, f) := by unfold takeF; rw [hmay]; rfl
          have E1 := Lib.hid e1
          clear e1 hmay
          go_wp2_with fail
          generalize wr.heap.size = Q at *
          generalize wr.alloc (.cells #[.int .i64 (V k 0), .int .i64 (V k 1), .int .i64 (V k 2), .int .i64 (V k 3)] 34) = W1 at *
          refine (take_o sn (V k 2) (V k 3) E1.out).mono ?_
          rintro e W2 ⟨rfl, s2, o2⟩
          have on2 := on.only o2 (fun ha => on.ne_own sn.ss.own (by decide) ha (by simp))
          have hm2 : l.length ≤ k + 1 := by rw [HM.out]; omega
          rw [← HM.out] at on2 ⊢
          go_wp2_with fail
          go_roundw
          case rel => exact ⟨k + 1, f, l, _, _, _, by omega, by go_num, rfl, s2, on2, ou, hm2⟩
          case measure => simp [intOf]; omega
        case' inl =>
          obtain ⟨p1, p2, p3, p4⟩ := mayB_true hmay
          rcases leastI_cases N f with ⟨y, hy, hy1, hy2, hy3⟩ | ⟨hy1, hy2⟩
          case inr =>
            have e1 := takeF_full (pid := V k 2) (page := V k 3) hmay hy2
            have hmN : m = N := by rw [← hcnt]; exact usedL_all hy2
            have E1 := Lib.hid e1
            clear e1 hmay hy1 hy2
            subst hmN
            go_wp2_with fail
            generalize wr.heap.size = Q at *
            generalize wr.alloc (.cells #[.int .i64 (V k 0), .int .i64 (V k 1), .int .i64 (V k 2), .int .i64 (V k 3)] 34) = W1 at *
            refine (take_o sn (V k 2) (V k 3) E1.out).mono ?_
            rintro e W2 ⟨rfl, s2, o2⟩
            have on2 := on.only o2 (fun ha => on.ne_own sn.ss.own (by decide) ha (by simp))
            go_wp2_with fail
            refine (len_any s2.ss).mono ?_
            rintro e w' ⟨rfl, rfl⟩
            have hm2 : l.length ≤ k + 1 := by rw [HM.out]; omega
            rw [← HM.out] at on2
            go_wp2_with fail
            go_roundw
            case rel => exact ⟨k + 1, f, l, _, _, _, by omega, by go_num, by rw [HM.out], s2, on2, ou, hm2⟩
            case measure => simp [intOf]; omega
          case' inl =>
            have e1 := takeF_at (pid := V k 2) (page := V k 3) hmay hy hy2 hy3
            have ou7 := out_push (v := setV (V k) (y : Int)) ou hy hy2 (by show V k 2 ≠ 0; omega) rfl
            have E1 := Lib.hid e1
            have e3 : (V k 2, V k 3) = (setV (V k) (y : Int) 2, setV (V k) (y : Int) 3) := rfl
            rw [← e3] at ou7
            have hrow : rowI 4 (setV (V k) (y : Int)) = [.int .i64 (V k 0), .int .i64 (y : Int), .int .i64 (V k 2), .int .i64 (V k 3)] := rfl
            have hcs : cellsR 4 l ++ [.int .i64 (V k 0), .int .i64 (y : Int), .int .i64 (V k 2), .int .i64 (V k 3)] = cellsR 4 (l ++ [setV (V k) (y : Int)]) := by rw [cellsR_snoc, hrow]
            have HC := Lib.hid hcs
            clear e1 hmay hy1 hy2 hy3 e3 hrow hcs ou
            go_wp2_with fail
            generalize wr.heap.size = Q at *
            generalize wr.alloc (.cells #[.int .i64 (V k 0), .int .i64 (V k 1), .int .i64 (V k 2), .int .i64 (V k 3)] 34) = W1 at *
            refine (take_o sn (V k 2) (V k 3) E1.out).mono ?_
            rintro e W2 ⟨rfl, s2, o2⟩
            have hneQ : Q ≠ B := by
              rintro rfl
              exact (OwnAt.ne sn.ss.own qn (by decide)) (by simp) rfl
            have on2 := on.only o2 (fun ha => on.ne_own sn.ss.own (by decide) ha (by simp))
            have q2 := rowIs_only qn o2 hneQ
            have q3 := box_set q2 (y : Int)
            have f1 := q2.frozen 1
            have b0 := box_at q3 (j := 0) (by omega)
            have b1 := box_at q3 (j := 1) (by omega)
            have b2 := box_at q3 (j := 2) (by omega)
            have b3 := box_at q3 (j := 3) (by omega)
            have x1 := box_at q2 (j := 1) (by omega)
            have s3 : St w (W2.setCell ⟨Q, 1, none⟩ (.int .i64 (y : Int))) S B N N (updS f y (V k 2, V k 3)) :=
              s2.of_blocks (s2.below.setCell (p := ⟨Q, 1, none⟩) hQ0 _) (by simp [World.setCell]) (Below.heap_setCell _ _ _ _ (rowIs_ne s2.ss.srow q2 (by decide))) (Below.heap_setCell _ _ _ _ hneQ.symm)
            have on3 := on2.only (only_set (only_refl W2 Q) 1 (.int .i64 (y : Int))) (fun ha => by have := hgQ ha; omega)
            have hsz3 : (W2.setCell ⟨Q, 1, none⟩ (.int .i64 (y : Int))).heap.size = W2.heap.size := by simp [World.setCell]
            have hrd := rd_new (W2.setCell ⟨Q, 1, none⟩ (.int .i64 (y : Int))) #[.int .i64 (V k 0), .int .i64 (y : Int), .int .i64 (V k 2), .int .i64 (V k 3)] 34 4 1 rfl
            rw [hsz3] at hrd
            have s4 := s3.belowW (below_new _ (.cells #[.int .i64 (V k 0), .int .i64 (y : Int), .int .i64 (V k 2), .int .i64 (V k 3)] 34))
            have on4 := on3.below (below_new _ (.cells #[.int .i64 (V k 0), .int .i64 (y : Int), .int .i64 (V k 2), .int .i64 (V k 3)] 34))
            have HR := Lib.hid hrd
            have HS4 := Lib.hid s4.below.size
            have y0 : setV (V k) (y : Int) 0 = V k 0 := rfl
            have y1 : setV (V k) (y : Int) 1 = (y : Int) := rfl
            have y2 : setV (V k) (y : Int) 2 = V k 2 := rfl
            have y3 : setV (V k) (y : Int) 3 = V k 3 := rfl
            rw [y0] at b0
            rw [y1] at b1
            rw [y2] at b2
            rw [y3] at b3
            clear hrd sn on qn s2 q2 q3 on2 on3 s3 o2 hsz3 y0 y1 y2 y3
            go_wp2_with (at_builtin; refine wpList_append_rd _ rfl (.tmp 62) (.tmp 64) 32 rfl w.heap.size 34 i0 _ 4 32 Try.underlying32 hi hz0 hz1 hz2 rfl (by omega) (.slice a' m c') m (cellsR 4 l) rfl on4.own (some ⟨W2.heap.size, 0, none⟩) 1 1 _ rfl HR.out (by simp [Value.oneCell']) (by unfold maxLen; omega) (by omega) HS4.out ?_)
            intro v4 w4 hown4 hgrow4 hat4 hnil4
            obtain ⟨a7, c7, g7, rfl, oa7⟩ := own_at hown4
            have s7 := s4.of_blocks (on4.grown_below hgrow4 s4.below s4.below.size (Nat.le_refl _)) hgrow4.size (on4.grown_other hgrow4 s4.ss.srow.lt (on4.ne s4.ss.srow (by decide))) (on4.grown_other hgrow4 s4.ss.ltB.2 (fun ha => on4.ne_own s4.ss.own (by decide) ha (by simp)))
            obtain ⟨l7, hl7⟩ : ∃ l7, l ++ [setV (V k) (y : Int)] = l7 := ⟨_, rfl⟩
            have hlen7 : m + 1 = l7.length := by rw [← hl7, List.length_append, HM.out]; rfl
            have hown7 := hown4
            rw [show cellsR 4 l ++ (#[Value.int .i64 (V k 0), .int .i64 (y : Int), .int .i64 (V k 2), .int .i64 (V k 3)] : Array Value).toList = cellsR 4 l7 by rw [← hl7]; exact HC.out, hlen7] at hown7
            rw [hl7] at ou7
            have hm7 : l7.length ≤ k + 1 := by omega
            rw [hlen7]
            generalize updS f y (V k 2, V k 3) = f7 at *
            clear hown4 hgrow4 hat4 hnil4 oa7 s4 on4 HR HS4 HC hl7 b0 b1 b2 b3 f1 x1 E1 hlen7 hgQ hneQ
            go_wp2_with fail
      case' inr.inr =>
        have q0 : (V k 0 != 1) = true := by rw [bne_iff_ne]; exact hbr
        clear hbr
        rcases Bool.eq_false_or_eq_true (mayB (V k 2) (V k 3)) with hmay | hmay
        case inr =>
          have e1 : takeF N f (V k 2) (V k 3) = (0, 2, f) := by unfold takeF; rw [hmay]; rfl
          have E1 := Lib.hid e1
          clear e1 hmay
          go_wp2_with fail
          generalize wr.heap.size = Q at *
          generalize wr.alloc (.cells #[.int .i64 (V k 0), .int .i64 (V k 1), .int .i64 (V k 2), .int .i64 (V k 3)] 34) = W1 at *
          refine (take_o sn (V k 2) (V k 3) E1.out).mono ?_
          rintro e W2 ⟨rfl, s2, o2⟩
          have on2 := on.only o2 (fun ha => on.ne_own sn.ss.own (by decide) ha (by simp))
          have hm2 : l.length ≤ k + 1 := by rw [HM.out]; omega
          rw [← HM.out] at on2 ⊢
          go_wp2_with fail
          go_roundw
          case rel => exact ⟨k + 1, f, l, _, _, _, by omega, by go_num, rfl, s2, on2, ou, hm2⟩
          case measure => simp [intOf]; omega
        case' inl =>
          obtain ⟨p1, p2, p3, p4⟩ := mayB_true hmay
          rcases leastI_cases N f with ⟨y, hy, hy1, hy2, hy3⟩ | ⟨hy1, hy2⟩
          case inr =>
            have e1 := takeF_full (pid := V k 2) (page := V k 3) hmay hy2
            have hmN : m = N := by rw [← hcnt]; exact usedL_all hy2
            have E1 := Lib.hid e1
            clear e1 hmay hy1 hy2
            subst hmN
            go_wp2_with fail
            generalize wr.heap.size = Q at *
            generalize wr.alloc (.cells #[.int .i64 (V k 0), .int .i64 (V k 1), .int .i64 (V k 2), .int .i64 (V k 3)] 34) = W1 at *
            refine (take_o sn (V k 2) (V k 3) E1.out).mono ?_
            rintro e W2 ⟨rfl, s2, o2⟩
            have on2 := on.only o2 (fun ha => on.ne_own sn.ss.own (by decide) ha (by simp))
            go_wp2_with fail
            refine (len_any s2.ss).mono ?_
            rintro e w' ⟨rfl, rfl⟩
            have hm2 : l.length ≤ k + 1 := by rw [HM.out]; omega
            rw [← HM.out] at on2
            go_wp2_with fail
            go_roundw
            case rel => exact ⟨k + 1, f, l, _, _, _, by omega, by go_num, by rw [HM.out], s2, on2, ou, hm2⟩
            case measure => simp [intOf]; omega
          case' inl =>
            have e1 := takeF_at (pid := V k 2) (page := V k 3) hmay hy hy2 hy3
            have ou7 := out_push (v := setV (V k) (y : Int)) ou hy hy2 (by show V k 2 ≠ 0; omega) rfl
            have E1 := Lib.hid e1
            have e3 : (V k 2, V k 3) = (setV (V k) (y : Int) 2, setV (V k) (y : Int) 3) := rfl
            rw [← e3] at ou7
            have hrow : rowI 4 (setV (V k) (y : Int)) = [.int .i64 (V k 0), .int .i64 (y : Int), .int .i64 (V k 2), .int .i64 (V k 3)] := rfl
            have hcs : cellsR 4 l ++ [.int .i64 (V k 0), .int .i64 (y : Int), .int .i64 (V k 2), .int .i64 (V k 3)] = cellsR 4 (l ++ [setV (V k) (y : Int)]) := by rw [cellsR_snoc, hrow]
            have HC := Lib.hid hcs
            clear e1 hmay hy1 hy2 hy3 e3 hrow hcs ou
            go_wp2_with fail
            generalize wr.heap.size = Q at *
            generalize wr.alloc (.cells #[.int .i64 (V k 0), .int .i64 (V k 1), .int .i64 (V k 2), .int .i64 (V k 3)] 34) = W1 at *
            refine (take_o sn (V k 2) (V k 3) E1.out).mono ?_
            rintro e W2 ⟨rfl, s2, o2⟩
            have hneQ : Q ≠ B := by
              rintro rfl
              exact (OwnAt.ne sn.ss.own qn (by decide)) (by simp) rfl
            have on2 := on.only o2 (fun ha => on.ne_own sn.ss.own (by decide) ha (by simp))
            have q2 := rowIs_only qn o2 hneQ
            have q3 := box_set q2 (y : Int)
            have f1 := q2.frozen 1
            have b0 := box_at q3 (j := 0) (by omega)
            have b1 := box_at q3 (j := 1) (by omega)
            have b2 := box_at q3 (j := 2) (by omega)
            have b3 := box_at q3 (j := 3) (by omega)
            have x1 := box_at q2 (j := 1) (by omega)
            have s3 : St w (W2.setCell ⟨Q, 1, none⟩ (.int .i64 (y : Int))) S B N N (updS f y (V k 2, V k 3)) :=
              s2.of_blocks (s2.below.setCell (p := ⟨Q, 1, none⟩) hQ0 _) (by simp [World.setCell]) (Below.heap_setCell _ _ _ _ (rowIs_ne s2.ss.srow q2 (by decide))) (Below.heap_setCell _ _ _ _ hneQ.symm)
            have on3 := on2.only (only_set (only_refl W2 Q) 1 (.int .i64 (y : Int))) (fun ha => by have := hgQ ha; omega)
            have hsz3 : (W2.setCell ⟨Q, 1, none⟩ (.int .i64 (y : Int))).heap.size = W2.heap.size := by simp [World.setCell]
            have hrd := rd_new (W2.setCell ⟨Q, 1, none⟩ (.int .i64 (y : Int))) #[.int .i64 (V k 0), .int .i64 (y : Int), .int .i64 (V k 2), .int .i64 (V k 3)] 34 4 1 rfl
            rw [hsz3] at hrd
            have s4 := s3.belowW (below_new _ (.cells #[.int .i64 (V k 0), .int .i64 (y : Int), .int .i64 (V k 2), .int .i64 (V k 3)] 34))
            have on4 := on3.below (below_new _ (.cells #[.int .i64 (V k 0), .int .i64 (y : Int), .int .i64 (V k 2), .int .i64 (V k 3)] 34))
            have HR := Lib.hid hrd
            have HS4 := Lib.hid s4.below.size
            have y0 : setV (V k) (y : Int) 0 = V k 0 := rfl
            have y1 : setV (V k) (y : Int) 1 = (y : Int) := rfl
            have y2 : setV (V k) (y : Int) 2 = V k 2 := rfl
            have y3 : setV (V k) (y : Int) 3 = V k 3 := rfl
            rw [y0] at b0
            rw [y1] at b1
            rw [y2] at b2
            rw [y3] at b3
            clear hrd sn on qn s2 q2 q3 on2 on3 s3 o2 hsz3 y0 y1 y2 y3
            go_wp2_with (at_builtin; refine wpList_append_rd _ rfl (.tmp 62) (.tmp 64) 32 rfl w.heap.size 34 i0 _ 4 32 Try.underlying32 hi hz0 hz1 hz2 rfl (by omega) (.slice a' m c') m (cellsR 4 l) rfl on4.own (some ⟨W2.heap.size, 0, none⟩) 1 1 _ rfl HR.out (by simp [Value.oneCell']) (by unfold maxLen; omega) (by omega) HS4.out ?_)
            intro v4 w4 hown4 hgrow4 hat4 hnil4
            obtain ⟨a7, c7, g7, rfl, oa7⟩ := own_at hown4
            have s7 := s4.of_blocks (on4.grown_below hgrow4 s4.below s4.below.size (Nat.le_refl _)) hgrow4.size (on4.grown_other hgrow4 s4.ss.srow.lt (on4.ne s4.ss.srow (by decide))) (on4.grown_other hgrow4 s4.ss.ltB.2 (fun ha => on4.ne_own s4.ss.own (by decide) ha (by simp)))
            obtain ⟨l7, hl7⟩ : ∃ l7, l ++ [setV (V k) (y : Int)] = l7 := ⟨_, rfl⟩
            have hlen7 : m + 1 = l7.length := by rw [← hl7, List.length_append, HM.out]; rfl
            have hown7 := hown4
            rw [show cellsR 4 l ++ (#[Value.int .i64 (V k 0), .int .i64 (y : Int), .int .i64 (V k 2), .int .i64 (V k 3)] : Array Value).toList = cellsR 4 l7 by rw [← hl7]; exact HC.out, hlen7] at hown7
            rw [hl7] at ou7
            have hm7 : l7.length ≤ k + 1 := by omega
            rw [hlen7]
            generalize updS f y (V k 2, V k 3) = f7 at *
            clear hown4 hgrow4 hat4 hnil4 oa7 s4 on4 HR HS4 HC hl7 b0 b1 b2 b3 f1 x1 E1 hlen7 hgQ hneQ
            go_wp2_with fail
      all_goals
        obtain ⟨av, cv, gv, hv7, oa7⟩ := own_at hown7
        have hv7' := Value.slice.inj hv7
        obtain ⟨rfl, -, rfl⟩ := hv7'
        have cnt7 := Lib.hid ou7.cnt
        refine (used_o s7 ou7.cnt).mono ?_
        rintro e W8 ⟨rfl, b8⟩
        have s8 := s7.belowW b8
        have oa8 := oa7.below b8
        clear s7 oa7 hown7 hv7
        have hle7 := oa8.le
        unfold maxLen at hle7
        obtain ⟨m7, hm7'⟩ : ∃ m7, l7.length = m7 := ⟨_, rfl⟩
        rw [hm7'] at hm7 oa8 hle7 ⊢
        have HM7 := Lib.hid hm7'
        clear hm7'
        go_wp2_with fail
        go_loopw [109] (fun i wr => ∃ j : Nat, j ≤ m7 ∧ i = .int .i64 j ∧ St w wr S B N N f7 ∧ OwnAt wr w.heap.size 34 4 a7 m7 c7 gv (cellsR 4 l7)) (fun i _ => m7 - (intOf i).toNat)
        case atStart => exact ⟨0, by omega, rfl, s8, oa8⟩
        case round =>
          clear s8 oa8
          obtain ⟨j, hj, rfl, s8, oa8⟩ := hrel
          by_cases hjm : j < m7
          · obtain ⟨vj, hvj, hvm⟩ := row_at (l := l7) (i := j) (by rw [HM7.out]; exact hjm)
            obtain ⟨t, ht1, ht2, ht3, ht4⟩ := ou7.at_ vj hvm
            obtain rfl := oa8.at_ (by omega)
            have cj1 := oa8.row hvj (j := 1) (by omega)
            have eo : ownerF N f7 (vj 1) = (vj 2, vj 3) := by rw [ht1, ownerF_nat ht2, ht3]
            have q2 : (vj 2 != 0) = true := by rw [bne_iff_ne]; exact ht4
            have EO := Lib.hid eo
            have HVJ := Lib.hid hvj
            clear eo ht1 ht2 ht3 ht4 hvm hvj
            go_wp2_with fail
            refine (owner_o s8 (vj 1) EO.out).mono ?_
            rintro e W9 ⟨rfl, b9⟩
            have s9 := s8.belowW b9
            have oa9 := oa8.below b9
            have cj2 := oa9.row HVJ.out (j := 2) (by omega)
            have cj3 := oa9.row HVJ.out (j := 3) (by omega)
            clear cj1 s8 oa8
            go_wp2_with fail
            obtain ⟨wo, rfl⟩ : ∃ wo : World, wo = W9 := ⟨_, rfl⟩
            go_loopw [144] (fun i wr => ∃ x : Nat, x ≤ j ∧ i = .int .i64 x ∧ St w wr S B N N f7 ∧ OwnAt wr w.heap.size 34 4 (some ⟨gv, 0, none⟩) m7 c7 gv (cellsR 4 l7)) (fun i _ => j - (intOf i).toNat)
            case atStart => exact ⟨0, by omega, rfl, s9, oa9⟩
            case round =>
              clear s9 oa9 cj2 cj3
              obtain ⟨x, hx, rfl, s9, oa9⟩ := hrel
              by_cases hxj : x < j
              · obtain ⟨vx, hvx, hvxm⟩ := row_at (l := l7) (i := x) (by rw [HM7.out]; omega)
                have cy1 := oa9.row HVJ.out (j := 1) (by omega)
                have cx1 := oa9.row hvx (j := 1) (by omega)
                have qn := beq_eq_false_iff_ne.2 (out_ne ou7 HVJ.out hvx hxj)
                have i0' : (0 : Int) ≤ (x : Int) := by omega
                have i1' : (x : Int) < (m7 : Int) := by omega
                have i2' : (0 : Int) ≤ (j : Int) := by omega
                have i3' : (j : Int) < (m7 : Int) := by omega
                clear hvx hvxm
                go_wp2_with fail
                go_quiet (fail)
                go_wp2_with fail
                go_roundw
                case rel => exact ⟨x + 1, by omega, by go_num, s9.belowW (below_drewN (Below.refl _ _) _), oa9.below (below_drewN (Below.refl _ _) _)⟩
                case measure => simp [intOf]; omega
              · go_wp2_with fail
                go_roundw
                case rel => exact ⟨j + 1, by omega, by go_num, s9, oa9⟩
                case measure => simp [intOf]; omega
          · go_wp2_with fail
            rw [← HM7.out] at oa8 ⊢
            go_roundw
            case rel => exact ⟨k + 1, f7, l7, _, _, _, by omega, by go_num, rfl, s8, oa8, ou7, by rw [HM7.out]; exact hm7⟩
            case measure => simp [intOf]; omega
    · go_wp2_with fail
      refine (known_then s.below).mono ?_
      rintro e w' ⟨rfl, hb⟩
      go_wp2_with fail
      go_ret
      exact ⟨rfl, hb⟩
end Go.Proofs.Ytljgpiljfigojaa
