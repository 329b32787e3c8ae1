/-
  The walk of 'same': all that is in it is the document's.
-/
import Derived.Test.YtcjlcbnjkkglbaaDoorDoc
import Derived.Test.YtcjlcbnjkkglbaaDoorRFQ
import Derived.Deep.DeepCutAuto
import Derived.Deep.CutBlock
namespace Go.Proofs.YtcjlcbnjkkglbaaDoor
open Go.RowKit
attribute [local go_sem] Oper.semAt_some
theorem seek_ex (P : Nat → Bool) (m : Nat) : ∀ N, ∃ r, Seek P m N r
  | 0 => ⟨none, fun i e => (by cases e), fun _ j _ hN => by omega⟩
  | N + 1 => by
    obtain ⟨r, hr⟩ := seek_ex P m N
    cases r with
    | some i =>
      obtain ⟨a, b, c, d⟩ := hr.some i rfl
      exact ⟨some i, fun k e => (by cases e; exact ⟨a, by omega, c, d⟩), fun e => by cases e⟩
    | none =>
      have h := hr.none rfl
      by_cases hp : m ≤ N ∧ P N = true
      · exact ⟨some N, fun k e => (by cases e; exact ⟨hp.1, by omega, hp.2, h⟩), fun e => by cases e⟩
      · refine ⟨none, fun i e => (by cases e), fun _ j hj hN => ?_⟩
        by_cases hjn : j = N
        · subst hjn
          cases hq : P j with
          | false => rfl
          | true => exact absurd ⟨hj, hq⟩ hp
        · exact h j hj (by omega)
theorem next_ex {Wd : Nat → Nat} {m N : Nat} (hm : m ≤ N) (h : (preB Wd m).length < (preB Wd N).length) : ∃ i, NextS Wd m N (some i) := by
  obtain ⟨r, hr⟩ := seek_ex (fun j => bitW Wd j != false) m N
  cases r with
  | some i => exact ⟨i, hr⟩
  | none =>
    rw [preB_last hr hm] at h
    exact absurd h (Nat.lt_irrefl _)
theorem cnt_rest {Wd : Nat → Nat} : ∀ {m N : Nat}, m ≤ N → preB Wd N = preB Wd m → cntP (bitW Wd) m (N - m) = 0
  | m, 0, h, _ => by rw [show 0 - m = 0 by omega]; rfl
  | m, N + 1, h, he => by
    by_cases e : m = N + 1
    · rw [e, Nat.sub_self]; rfl
    · have h1 := preB_pre (Wd := Wd) (m := m) (N := N) (by omega)
      have h2 := preB_succ Wd N
      rw [he] at h2
      have h3 := h1.length_le
      have h4 := congrArg List.length h2
      rw [List.length_append] at h4
      cases hb : bitW Wd N with
      | true => rw [hb] at h4; simp at h4; omega
      | false =>
        rw [hb] at h2
        simp at h2
        rw [show N + 1 - m = (N - m) + 1 by omega, cntP_succ, cnt_rest (m := m) (N := N) (by omega) h2.symm, show m + (N - m) = N by omega, hb]
        rfl
theorem not_prefixS {α : Type} {l p : List α} {x y : α} (hy : p ++ [y] <+: l) (hne : y ≠ x) : ¬ (p ++ [x] <+: l) := by
  rintro ⟨t, ht⟩
  obtain ⟨s, hs⟩ := hy
  rw [← hs, List.append_assoc, List.append_assoc] at ht
  have := List.append_cancel_left ht
  simp at this
  exact hne this.1.symm
section
variable {w0 w W W' : World} {D b N X : Nat} {Wd : Nat → Nat}
theorem StB.step {B : Nat} (s : StB w0 W D b N Wd) (k : Step B W W') (hw : w0.heap.size ≤ B) : StB w0 W' D b N Wd := by
  obtain ⟨c, h⟩ := s.bs
  refine ⟨⟨c, rowIs_step h.srow k, h.own.step k, h.le, h.sm⟩, s.below.trans (k.below hw s.below.size), s.own, fun j hj => cell_step (s.tab j hj) k, s.pos⟩
theorem StB.onlyO (s : StB w0 W D b N Wd) {d : Nat} (k : Only W W' d) (h : D ≠ d ∧ b ≠ d) (hd : w0.heap.size ≤ d) : StB w0 W' D b N Wd := by
  obtain ⟨c, q⟩ := s.bs
  have h0 := s.pos
  refine ⟨⟨c, rowIs_only q.srow k h.1, q.own.only k (fun _ => h.2), q.le, q.sm⟩, below_only s.below k hd, s.own, fun j hj => ?_, s.pos⟩
  exact (World.cell?_of_block (a := ⟨0, j, none⟩) (k.block 0 (by have := s.below.size; omega) (fun e => by cases e; omega))).trans (s.tab j hj)
end
/-- The worlds of 'same'. -/
structure SM (w0 w W : World) (D b X N : Nat) (Wd : Nat → Nat) (res : Bool) : Prop where
  st : StB w0 W D b N Wd
  db : DB W w0.heap.size X N Wd
  pb : Boxed W w.heap.size 36 (.slice (some ⟨X, 0, none⟩) N N)
  rb : Boxed W (w.heap.size + 1) 4 (.bool res)
  bl : Below w.heap.size w W
section
variable {w0 w W W' : World} {D b X N : Nat} {Wd : Nat → Nat} {res : Bool}
theorem SM.below (s : SM w0 w W D b X N Wd res) (k : Below W.heap.size W W') : SM w0 w W' D b X N Wd res :=
  ⟨s.st.belowW k, s.db.below k, boxed_below s.pb k, boxed_below s.rb k, below_then s.bl k⟩
theorem SM.only (s : SM w0 w W D b X N Wd res) {d : Nat} (k : Only W W' d) (h : D < w.heap.size ∧ b < w.heap.size ∧ X < w.heap.size) (hw : w0.heap.size ≤ w.heap.size) (hd : w.heap.size + 2 ≤ d) : SM w0 w W' D b X N Wd res :=
  ⟨s.st.onlyO k ⟨by omega, by omega⟩ (by omega), s.db.only k (by omega), boxed_only s.pb k (by omega), boxed_only s.rb k (by omega), below_only s.bl k (by omega)⟩
theorem SM.setR (s : SM w0 w W D b X N Wd res) (h : D < w.heap.size ∧ b < w.heap.size ∧ X < w.heap.size) (hw : w0.heap.size ≤ w.heap.size) (r : Bool) : SM w0 w (W.setCell ⟨w.heap.size + 1, 0, none⟩ (.bool r)) D b X N Wd r := by
  have k := only_set (only_refl W (w.heap.size + 1)) 0 (.bool r)
  exact ⟨s.st.onlyO k ⟨by omega, by omega⟩ (by omega), s.db.only k (by omega), boxed_only s.pb k (by omega), s.rb.set _, below_only s.bl k (by omega)⟩
theorem SM.step (s : SM w0 w W D b X N Wd res) {B : Nat} (k : Step B W W') (hw : w.heap.size ≤ B) (hw0 : w0.heap.size ≤ w.heap.size) : SM w0 w W' D b X N Wd res :=
  ⟨s.st.step k (by omega), ⟨s.db.own.step k, s.db.le⟩, boxed_step s.pb k, boxed_step s.rb k, s.bl.trans (k.below hw s.bl.size)⟩
end
theorem len_clean {w : World} {base D c b N : Nat} {a : Option Addr} {Wd : Nat → Nat} (s : BS w base D a c b N Wd) (h : Clean Wd N) : Calls Tryd.prog 24 #[.pointer (some ⟨D, 0, none⟩)] w fun e w' => e = .returned (.int .i64 (cntP (bitW Wd) 0 N)) ∧ w = w' := by
  rw [← cnt_clean h]
  exact len_words s
theorem DB.rdB {w : World} {base X N : Nat} {Wd : Nat → Nat} (s : DB w base X N Wd) : RdB w (some ⟨X, 0, none⟩) N (bitW Wd) 0 := ⟨fun h => ⟨X, 0, rfl, fun i hi => by rw [Nat.zero_add]; exact s.cell hi⟩⟩
theorem eq_fnS (a : Fn) (b c : Array Value) (W : World) : Sem.run Tryd.prog (binOp BinOp.eql 48 (Value.func a b c) Value.nilFunc) W = .ok (.bool false) W := by kernel_rfl
theorem elem36 : Tryd.prog.elem 36 = 4 := by kernel_rfl
set_option maxRecDepth 100000 in
set_option maxHeartbeats 4000000 in
theorem same_any {w0 w : World} {D b X N : Nat} {Wd : Nat → Nat} (s : StB w0 w D b N Wd) (d : DB w w0.heap.size X N Wd) (hcl : Clean Wd N) :
    Calls Tryd.prog 22 #[.pointer (some ⟨D, 0, none⟩), .slice (some ⟨X, 0, none⟩) N N] w fun e w' => e = .returned (.bool true) ∧ Below w.heap.size w w' := by
  refine calls_of_wp_marks Tryd.func22 rfl ?_
  simp only [Tryd.ntmps22, List.size_toArray, List.length_cons, List.length_nil, Nat.reduceAdd, Nat.reduceSub, Array.replicate_succ, Array.replicate_zero, List.push_toArray, List.append_toArray, List.nil_append, List.cons_append]
  have hlts : D < w.heap.size ∧ b < w.heap.size ∧ X < w.heap.size := ⟨s.ltD, s.geb.2, d.lt.2⟩
  have hw0 : w0.heap.size ≤ w.heap.size := s.below.size
  have hN := s.le
  have b3 : Below w.heap.size w ((w.alloc (.cells #[.slice (some ⟨X, 0, none⟩) N N] 36)).alloc (.cells #[.bool false] 4)) := below_alloc (below_new _ _) _
  have s3 : SM w0 w ((w.alloc (.cells #[.slice (some ⟨X, 0, none⟩) N N] 36)).alloc (.cells #[.bool false] 4)) D b X N Wd false := by
    refine ⟨s.belowW b3, d.below b3, (Boxed.new w 36 _).alloc _, ?_, b3⟩
    have := Boxed.new (w.alloc (.cells #[.slice (some ⟨X, 0, none⟩) N N] 36)) 4 (.bool false)
    rw [World.size_alloc] at this
    exact this
  have HCL := Lib.hid hcl
  have hcn := cntP_le (bitW Wd) 0 N
  clear s d b3 hcl
  go_upto_region 1 with fail
  generalize (w.alloc (.cells #[.slice (some ⟨X, 0, none⟩) N N] 36)).alloc (.cells #[.bool false] 4) = W3 at *
  have p0 := s3.pb.cell
  have hsz := fun (W : World) (k : Below W3.heap.size W3 W) => size_st (s3.below k).st
  have HSZ := Lib.hid hsz
  clear hsz
  have hq : ∀ d, Below W3.heap.size W3 (W3.drewN d) := fun d => below_drewN (Below.refl _ _) d
  have HQ := Lib.hid hq
  clear hq
  have HL := Lib.hid (fun (W : World) (k : Below W3.heap.size W3 W) => (show Calls Tryd.prog 24 #[.pointer (some ⟨D, 0, none⟩)] W fun e w' => e = .returned (.int .i64 (cntP (bitW Wd) 0 N)) ∧ W = w' by
    obtain ⟨c, h⟩ := (s3.below k).st.bs
    exact len_clean h HCL.out))
  have HD := Lib.hid (fun (W : World) (k : Below W3.heap.size W3 W) => doc_len (c := N) (s3.below k).db.rdB hN (Nat.le_refl _) hN)
  go_quiet ((first
    | (go_at_call 11; exact Calls.quiet_of_same ((HSZ.out _ (HQ.out _)).mono fun _ _ ⟨he, hw⟩ => ⟨he, hw.symm⟩))
    | (go_at_call 24; exact Calls.quiet_of_same ((HL.out _ (HQ.out _)).mono fun _ _ ⟨he, hw⟩ => ⟨he, hw.symm⟩))
    | (go_at_call 30; exact Calls.quiet_of_same ((HD.out _ (HQ.out _)).mono fun _ _ ⟨he, hw⟩ => ⟨he, hw.symm⟩))))
  have sD := s3.below (HQ.out nq)
  clear HSZ HL HD HQ p0 s3
  generalize W3.drewN nq = W4 at *
  have heq := eq_fnS
  have bN := below_new W4 (.cells #[.int .i64 0] 3)
  have sN := sD.below bN
  have nN := Boxed.new W4 3 (.int .i64 0)
  have hnb : w.heap.size + 2 ≤ W4.heap.size := by have := sD.rb.lt; omega
  clear sD bN
  go_wp2_with fail
  generalize hnbe : W4.heap.size = nb at *
  generalize W4.alloc (.cells #[.int .i64 0] 3) = W5 at *
  clear hnbe
  refine (all_any (some ⟨D, 0, none⟩) W5).mono ?_
  rintro e W6 ⟨rfl, rfl⟩
  have b6 := below_new W5 (.cells #[.pointer (some ⟨D, 0, none⟩)] 24)
  have s6 := sN.below b6
  have n6 := boxed_below nN b6
  clear sN nN b6
  go_wp2_with fail
  generalize W5.alloc (.cells #[.pointer (some ⟨D, 0, none⟩)] 24) = W6 at *
  refine (all_any (some ⟨D, 0, none⟩) W6).mono ?_
  rintro e W7 ⟨rfl, rfl⟩
  have b7 := below_new W6 (.cells #[.pointer (some ⟨D, 0, none⟩)] 24)
  have s7 := s6.below b7
  have n7 := boxed_below n6 b7
  have hX := Boxed.new W6 24 (.pointer (some ⟨D, 0, none⟩))
  clear s6 n6 b7
  go_wp2_with fail
  generalize hXx : W6.heap.size = Xx at *
  generalize W6.alloc (.cells #[.pointer (some ⟨D, 0, none⟩)] 24) = W7 at *
  clear hXx
  have hah : Ahead W7 nb (fun k => k = nb ∨ k = w.heap.size + 1) := ⟨fun k hk => by rcases hk with rfl | rfl; exact n7.lt; exact s7.rb.lt, n7.lt, fun d o n c hd => by rw [n7.cell] at hd; cases hd⟩
  have hpos := s7.st.pos
  have hs0 : SafeB nb (fun k => k = nb ∨ k = w.heap.size + 1) W7 0 := by
    refine ⟨?_, by omega, fun d o n c hd => by rw [n7.cell] at hd; cases hd⟩
    have := s7.st.tab 0 (by decide)
    unfold World.cell? at this
    cases hh : W7.heap[0]? with
    | none => simp [hh] at this
    | some o =>
      cases o with
      | cells c t f => exact ⟨c, t, f, rfl⟩
      | _ => simp [hh] at this
  have hT : TellsS Tryd.prog 31 #[.pointer (some ⟨Xx, 0, none⟩)] (fun x : Nat => #[.int .i64 (x : Int)]) (SafeB nb (fun k => k = nb ∨ k = w.heap.size + 1)) (preB Wd N) W7 := by
    obtain ⟨c, h⟩ := s7.st.bs
    exact tells_all h s7.st.tab hX hah hs0
  have HT := Lib.hid hT
  have HAH := Lib.hid hah
  have hw7 := s7.bl.size
  clear hT hah hX hs0
  refine wp_rangeS1 (α := Nat) 24 6 (gf := 31) (lb := #[.pointer (some ⟨Xx, 0, none⟩)]) rfl (fun _ _ => by kernel_rfl) HT.out HAH.out
    (fun pre W => SM w0 w W D b X N Wd false ∧ (∃ nn : Nat, nn ≤ N ∧ pre = preB Wd nn ∧ Boxed W nb 3 (.int .i64 (nn : Int))) ∧ W7.heap.size ≤ W.heap.size)
    (fun c' pre W => c' = .ret ∧ ¬ (pre <+: preB Wd N))
    (fun pre W W' h st => ⟨h.1.step st hw7 hw0, by obtain ⟨nn, h1, h2, h3⟩ := h.2.1; exact ⟨nn, h1, h2, boxed_step h3 st⟩, Nat.le_trans h.2.2 st.size⟩) (fun c' pre W W' h st => h) ⟨s7, ⟨0, Nat.zero_le _, rfl, n7⟩, Nat.le_refl _⟩ ?assign ?body ?done ?stop
  case assign =>
    intro l x W K hK
    gi_wp2
    exact hK
  case stop =>
    rintro M c' pre W hM hpre ⟨rfl, hx⟩ hk
    exact absurd hpre hx
  case done =>
    rintro M W hM ⟨s8, ⟨nn, hnn, hpre, n8⟩, hsz8⟩ hk
    have mk8 : Marks w.heap.size W [M] := ⟨fun D' h' => by obtain rfl := List.mem_singleton.1 h'; exact ⟨by omega, hk⟩, by simp⟩
    have HCR := Lib.hid (cnt_rest hnn hpre)
    clear hpre HT HAH n7 s7 hk
    go_wp2_with fail
    refine (all_any (some ⟨D, 0, none⟩) W).mono ?_
    rintro e WA ⟨rfl, rfl⟩
    have bA := below_new W (.cells #[.pointer (some ⟨D, 0, none⟩)] 24)
    have sA := s8.below bA
    have nA := boxed_below n8 bA
    have mA := mk8.below bA
    clear s8 n8 mk8 bA
    go_wp2_with fail
    generalize W.alloc (.cells #[.pointer (some ⟨D, 0, none⟩)] 24) = WA at *
    refine (all_any (some ⟨D, 0, none⟩) WA).mono ?_
    rintro e WB ⟨rfl, rfl⟩
    have bB := below_new WA (.cells #[.pointer (some ⟨D, 0, none⟩)] 24)
    have sB := sA.below bB
    have nB := boxed_below nA bB
    have mB := mA.below bB
    have hX := Boxed.new WA 24 (.pointer (some ⟨D, 0, none⟩))
    clear sA nA mA bB
    go_wp2_with fail
    generalize hYx : WA.heap.size = Yx at *
    generalize WA.alloc (.cells #[.pointer (some ⟨D, 0, none⟩)] 24) = WB at *
    clear hYx
    have hah : Ahead WB nb (fun k => k = nb ∨ k = w.heap.size + 1) := ⟨fun k hk => by rcases hk with rfl | rfl; exact nB.lt; exact sB.rb.lt, nB.lt, fun d o n c hd => by rw [nB.cell] at hd; cases hd⟩
    have hs0 : SafeB nb (fun k => k = nb ∨ k = w.heap.size + 1) WB 0 := by
      refine ⟨?_, by omega, fun d o n c hd => by rw [nB.cell] at hd; cases hd⟩
      have := sB.st.tab 0 (by decide)
      unfold World.cell? at this
      cases hh : WB.heap[0]? with
      | none => simp [hh] at this
      | some o =>
        cases o with
        | cells c t f => exact ⟨c, t, f, rfl⟩
        | _ => simp [hh] at this
    have hT : TellsS Tryd.prog 31 #[.pointer (some ⟨Yx, 0, none⟩)] (fun x : Nat => #[.int .i64 (x : Int)]) (SafeB nb (fun k => k = nb ∨ k = w.heap.size + 1)) (preB Wd N) WB := by
      obtain ⟨c, h⟩ := sB.st.bs
      exact tells_all h sB.st.tab hX hah hs0
    have HT := Lib.hid hT
    have HAH := Lib.hid hah
    have hwB := sB.bl.size
    have HMD := Lib.hid (fun D h => mB.lt (D := D) h)
    clear hT hah hX hs0
    refine wp_rangeS (α := Nat) (gf := 31) (lb := #[.pointer (some ⟨Yx, 0, none⟩)]) rfl (fun _ _ => by kernel_rfl) HT.out HAH.out (fun _ => rfl)
      (fun pre W => SM w0 w W D b X N Wd false ∧ Boxed W nb 3 (.int .i64 (nn : Int)) ∧ Marks w.heap.size W [M] ∧ WB.heap.size ≤ W.heap.size)
      (fun c' pre W => c' = .exit 4 ∧ SM w0 w W D b X N Wd false ∧ Boxed W nb 3 (.int .i64 (nn : Int)) ∧ Marks w.heap.size W [M] ∧ WB.heap.size ≤ W.heap.size)
      (fun pre W W' h st => ⟨h.1.step st hwB hw0, boxed_step h.2.1 st, ⟨fun D hD => ⟨(h.2.2.1.lay D hD).1, ((st.below (B' := D + 1) (HMD.out D hD) (h.2.2.1.lt hD)).block D (Nat.lt_succ_self D)).trans (h.2.2.1.lay D hD).2⟩, h.2.2.1.nd⟩, Nat.le_trans h.2.2.2 st.size⟩)
      (fun c' pre W W' h st => ⟨h.1, h.2.1.step st hwB hw0, boxed_step h.2.2.1 st, ⟨fun D hD => ⟨(h.2.2.2.1.lay D hD).1, ((st.below (B' := D + 1) (HMD.out D hD) (h.2.2.2.1.lt hD)).block D (Nat.lt_succ_self D)).trans (h.2.2.2.1.lay D hD).2⟩, h.2.2.2.1.nd⟩, Nat.le_trans h.2.2.2.2 st.size⟩)
      ⟨sB, nB, mB, Nat.le_refl _⟩ (fun _ _ _ => True) (fun _ _ _ _ _ _ => trivial) ?assign2 ?body2 ?done2 ?stop2
    case assign2 =>
      intro l pre x W K hI hK
      gi_wp2
      exact hK _ W (KeepsFrom.refl _ _) (kpS_refl _ _) hI trivial
    case body2 =>
      intro l pre x a' W hl _ hI _ _
      gi_wp2
      exact ⟨KeepsFrom.refl _ _, rfl, hI⟩
    case' done2 => rintro M2 W2 hM2 ⟨s9, n9, m9, hsz9⟩ hk2
    case' stop2 => rintro M2 c' pre W2 hM2 hpre ⟨rfl, s9, n9, m9, hsz9⟩ hk2
    all_goals
      obtain ⟨i4, hi4, hz0, hz1, hz2⟩ := info_parts infoB4
      obtain ⟨A, hsl, hrdA⟩ := run_slice_from Tryd.underlying36 elem36 hi4 X 0 N N nn hnn (Nat.le_refl _)
      rw [hz1] at hrdA
      have hA : RdB W2 A (N - nn) (bitW Wd) nn := by
        have hr := hrdA W2 _ s9.db.own.rd
        refine ⟨fun h => ?_⟩
        obtain ⟨X1, o1, e1, _, hc⟩ := hr.at_ h
        refine ⟨X1, o1, e1, fun j hj => hc j _ ?_⟩
        rw [List.getElem?_drop, Nat.mul_one, boolL_get, if_pos (by omega)]
      have HLEN := Lib.hid (doc_len (c := N - nn) hA (by omega) (Nat.le_refl _) (by omega))
      have p0 := s9.pb.cell
      have cn := n9.cell
      have c8 := s9.rb.cell
      have f8 := s9.rb.frozen
      have d1 : decide ((nn : Int) ≤ (N : Int)) = true := by simp; omega
      have d2 : decide (nn ≤ N) = true := by simp; omega
      have d3 : (nn : Int) ≤ (N : Int) := by omega
      have d4 : ¬ (N : Int) < (nn : Int) := by omega
      have mk2 : Marks w.heap.size W2 [M2, M] := ⟨fun D' h' => by
        rcases List.mem_cons.1 h' with rfl | h'
        · exact ⟨by omega, hk2⟩
        · exact m9.lay D' h', by
        have := m9.lt (D := M) (by simp)
        have := HMD.out M (by simp)
        simp; omega⟩
      have HMK := Lib.hid mk2
      have HS := Lib.hid s9
      clear mk2 s9 n9 m9 hk2 hrdA hA
      go_wp2_with fail
      refine HLEN.out.mono ?_
      rintro e w' ⟨rfl, rfl⟩
      rw [HCR.out]
      have HS8 := Lib.hid (HS.out.setR hlts hw0 true)
      go_wp2_with fail
      refine leaves_marks (B := w.heap.size) [M2, M] _ HS8.out.bl.size (HMK.out.set _ _) ?_
      intro w' sh
      have hc' := shut_cell sh HS8.out.rb.cell
      exact ⟨_, by simp [results, Tryd.results22, go_sem, hc'], rfl, HS8.out.bl.trans sh.below⟩
  case body =>
    rintro l pre x W hl ⟨s8, ⟨nn, hnn, hpre, n8⟩, hsz8⟩ hlen
    subst hpre
    simp only [List.setIfInBounds_toArray, List.set_cons_zero, List.set_cons_succ]
    obtain ⟨i, hi⟩ := next_ex hnn hlen
    obtain ⟨hi1, hi2, hi3, hi4⟩ := hi.some i rfl
    have HPN := Lib.hid (preB_next hi)
    have hib : bitW Wd i = true := by simpa using hi3
    have hib2 : ∀ j, nn ≤ j → j < i → bitW Wd j = false := fun j h1 h2 => by simpa using hi4 j h1 h2
    have HIB := Lib.hid hib
    have HIB2 := Lib.hid hib2
    have hBl : nb < W.heap.size := n8.lt
    have h2l : w.heap.size + 1 < W.heap.size := s8.rb.lt
    clear hi hi3 hi4 hib hib2 hlen
    have HI0 := Lib.hid (And.intro s8 (And.intro n8 hsz8))
    clear s8 n8 hsz8
    gi_wp2
    gi_loopw [] (fun wr => ∃ t : Nat, nn ≤ t ∧ t ≤ i ∧ SM w0 w wr D b X N Wd false ∧ Boxed wr nb 3 (.int .i64 (t : Int)) ∧ W7.heap.size ≤ wr.heap.size ∧ KeepsFrom W7.heap.size W wr ∧ KpS (SafeB nb (fun k => k = nb ∨ k = w.heap.size + 1)) W wr) (fun wr => i - (intOf ((wr.cell? ⟨nb, 0, none⟩).getD undef)).toNat)
    case atStart => exact ⟨nn, Nat.le_refl _, hi1, HI0.out.1, HI0.out.2.1, HI0.out.2.2, KeepsFrom.refl _ _, kpS_refl _ _⟩
    case round =>
      obtain ⟨t, ht1, ht2, s9, n9, hsz9, hkf, hks⟩ := hrel
      have cn := n9.cell
      have fn := n9.frozen
      have p0 := s9.pb.cell
      have ct := s9.db.cell (i := t) (by omega)
      have hBl9 : nb < wr.heap.size := n9.lt
      have h2l9 : w.heap.size + 1 < wr.heap.size := s9.rb.lt
      have hne1 : w.heap.size ≠ nb := by omega
      have hne2 : X ≠ nb := by omega
      have d1 : decide ((t : Int) < (N : Int)) = true := by simp; omega
      have d2 : decide (t < N) = true := by simp; omega
      have i0 : (0 : Int) ≤ (t : Int) := by omega
      have i1 : (t : Int) < (N : Int) := by omega
      have on := only_set (only_refl wr nb) 0 (.int .i64 ((t : Int) + 1))
      have HS := Lib.hid (s9.only on hlts hw0 hnb)
      have HN := Lib.hid (n9.set (.int .i64 ((t : Int) + 1)))
      have HKF := Lib.hid hkf
      have HKS := Lib.hid hks
      have HK1 := Lib.hid (kpS_set (B := nb) (d := nb) (Mod := fun k => k = nb ∨ k = w.heap.size + 1) (W := wr) (v := .int .i64 ((t : Int) + 1)) (.inl rfl) hBl9 (fun _ e o n c => by simp) (by rw [n9.cell]; rfl))
      have HZ := Lib.hid hsz9
      have c8 := s9.rb.cell
      have f8 := s9.rb.frozen
      clear s9 n9 hsz9 hkf hks on
      by_cases hti : t < i
      · have hb := HIB2.out t ht1 hti
        rw [hb] at ct
        clear hb
        gi_wp2
        go_roundw
        case rel => exact ⟨t + 1, by omega, by omega, HS.out, HN.out, by simpa [World.setCell] using HZ.out, HKF.out.trans (keeps_set _ _ _), HKS.out.trans HK1.out⟩
        case measure =>
          rw [cn, World.cell?_setCell_same' _ _ _ (by rw [cn]; rfl)]
          simp [intOf]; omega
      · obtain rfl : t = i := by omega
        rw [HIB.out] at ct
        by_cases hx : x = t
        · have q : ((x : Int) != (t : Int)) = false := by rw [hx]; simp
          have q2 : (x != t) = false := by rw [hx]; simp
          have HX := Lib.hid hx
          clear hx
          gi_wp2
          exact ⟨HKF.out.trans (keeps_set _ _ _), HKS.out.trans HK1.out, HS.out, ⟨t + 1, by omega, by rw [HPN.out, HX.out], HN.out⟩, by simpa [World.setCell] using HZ.out⟩
        · have q : ((x : Int) != (t : Int)) = true := by rw [bne_iff_ne]; omega
          have q2 : (x != t) = true := by rw [bne_iff_ne]; exact hx
          have HX := Lib.hid (show ¬ (preB Wd nn ++ [x] <+: preB Wd N) from not_prefixS (y := t) (by rw [← HPN.out]; exact preB_pre (by omega)) (fun e => hx e.symm))
          clear hx
          gi_wp2
          exact ⟨HKF.out.trans (keeps_set _ _ _), rfl, HX.out⟩
end Go.Proofs.YtcjlcbnjkkglbaaDoor
