/-
  What a loop over all leaves that collects: a row in a box.
-/
import Derived.Test.YthgajdaiklfjhaaTouched
namespace Go.Proofs.Ythgajdaiklfjhaa
open Go.RowKit

theorem slice_some {ad : Addr} {n c d o n' c' : Nat} (h : Value.slice (some ad) n c = .slice (some ⟨d, o, none⟩) n' c') : ad = ⟨d, o, none⟩ := by cases h; rfl
section
variable {W w3 : World} {Bx : Nat} {ta a3 : Option Addr} {tn tc gt tO n3 c3 g3 o3 : Nat} {base base3 : Nat} {xs xs3 : List Int} {ob : Obj}
/-- A round that appends to the row in the box keeps what is safe. -/
theorem kpS_push (hB : Boxed W Bx 23 (.slice ta tn tc)) (hr : RingAt W base 3 ta tn tc gt tO xs) (hm : Moved (W.alloc ob) w3 ta gt g3) (hr3 : RingAt w3 base3 3 a3 n3 c3 g3 o3 xs3) :
    KpS (SafeB Bx (· = Bx)) W (w3.setCell ⟨Bx, 0, none⟩ (.slice a3 n3 c3)) := by
  intro k hk
  obtain ⟨⟨c, t, f, h1⟩, h2, h3⟩ := hk
  have hkl : k < W.heap.size := (Array.getElem?_eq_some_iff.1 h1).1
  have hgk : ta ≠ none → gt ≠ k := fun ha => by
    cases ta with
    | none => exact absurd rfl ha
    | some ad =>
      obtain rfl := hr.at_ ad rfl
      exact h3 gt tO tn tc hB.cell
  have hW1 : (W.alloc ob).heap[k]? = W.heap[k]? := Below.heap_alloc W ob k hkl
  have hw3 : w3.heap[k]? = W.heap[k]? := by
    rcases hm with ⟨h4, _, h5⟩ | ⟨_, h5⟩
    · exact (h5.block k (by simp; omega) (fun e => hgk h4 (by cases e; rfl))).trans hW1
    · exact (h5.block k (by simp; omega)).trans hW1
  have e : (w3.setCell ⟨Bx, 0, none⟩ (.slice a3 n3 c3)).heap[k]? = W.heap[k]? := (Below.heap_setCell _ _ _ _ h2).trans hw3
  refine ⟨e, ⟨c, t, f, e.trans h1⟩, h2, fun d o n c2 hd => ?_⟩
  have hBl := hB.lt
  have hsome : (w3.cell? ⟨Bx, 0, none⟩).isSome = true := by
    have hBg : ta ≠ none → gt ≠ Bx := hr.ne (boxed_row hB) (by decide)
    have : w3.heap[Bx]? = W.heap[Bx]? := by
      have h0 : (W.alloc ob).heap[Bx]? = W.heap[Bx]? := Below.heap_alloc W ob Bx hBl
      rcases hm with ⟨h4, _, h5⟩ | ⟨_, h5⟩
      · exact (h5.block Bx (by simp; omega) (fun e => hBg h4 (by cases e; rfl))).trans h0
      · exact (h5.block Bx (by simp; omega)).trans h0
    rw [World.cell?_of_block (a := ⟨Bx, 0, none⟩) (w := W) this, hB.cell]; rfl
  rw [World.cell?_setCell_same' _ _ _ hsome] at hd
  have hd := Option.some.inj hd
  cases a3 with
  | none => cases hd
  | some ad =>
    have h6 := hr3.at_ ad rfl
    have h7 := slice_some hd
    rw [h6] at h7
    have h8 : g3 = d := by cases h7; rfl
    rcases hm with ⟨h4, h9, _⟩ | ⟨h9, _⟩
    · rw [← h8, h9]; exact hgk h4
    · rw [← h8, h9]; simp; omega
theorem keeps_push {B0 : Nat} (hr : RingAt W base 3 ta tn tc gt tO xs) (hm : Moved (W.alloc ob) w3 ta gt g3) (v : Value) : KeepsFrom B0 W (w3.setCell ⟨Bx, 0, none⟩ v) := by
  refine ((keeps_below (below_new W ob)).trans ?_).trans (keeps_set _ _ _)
  rcases hm with ⟨h4, _, h5⟩ | ⟨_, h5⟩
  · refine keeps_only h5 fun o ho => ?_
    obtain ⟨cs, h1, _⟩ := hr.blk h4
    rw [Below.heap_alloc W ob gt (hr.lt h4).2, h1] at ho
    cases ho; rfl
  · exact keeps_below h5
end
section
variable {F : Fence} {nF : Nat} {P : Program} (w : World)
theorem wpListIn_append_ring {ops : Array Oper} {rest : List Oper} {o : Oper} {ac : Act} {Q : Exit → Act → World → Prop} (hgd : o.guard = none) (s x : Operand) (t : TypeId)
    (ho : o.op = .call { callee := .builtin .append, args := #[s, x], argTypes := #[t, t] })
    {base e n c g of : Nat} {a : Option Addr} {xs : List Int} {i : TypeInfo} {z : Value} (ht : P.underlying t = some (.slice e)) (hi : P.info? e = some i) (hz : i.zero = some z) (hs : i.size = 1) (hb : i.bytes = 8) (hzc : z.cells.size = 1)
    (h : RingAt w base e a n c g of xs) (hsv : ac.eval s = .slice a n c) {A : Nat} {y : Int} (hxv : ac.eval x = .slice (some ⟨A, 0, none⟩) 1 1) (hA : w.cell? ⟨A, 0, none⟩ = some (.int .i64 y)) (hn : n ≤ 1000000) (hbase : base ≤ w.heap.size)
    (hK : ∀ a' c' g' o' w', RingAt w' base e a' (n + 1) c' g' o' (xs ++ [y]) → a' ≠ none → Moved w w' a g g' → wpListIn F nF P ops Q rest (ac.put o.dst (.slice a' (n + 1) c')) w') :
    wpListIn F nF P ops Q (o :: rest) ac w := by
  refine wpListIn_plain hgd fun K hK' => ?_
  obtain ⟨a', c', g', o', w', hrun, h1, h2, h3⟩ := run_append_ring (ty := o.type) h ht hi hz hs hb hzc hA hn hbase
  unfold Oper.wpIn
  refine ⟨by simp [Oper.about, ho, resolve, Target.leads, Sem.run_pure], ?_⟩
  rw [Oper.semAt_plain F _ _ (by rw [ho]; intro c hc'; cases hc')]
  simp [execOp, ho, resolve, invoke, builtin, hsv, hxv, hrun, Result.andThen]
  exact hK' _ _ (hK a' c' g' o' w' h1 h2 h3)
end
/-- The worlds of a loop that collects. -/
structure CW (w W : World) (D b g : Nat) (L : Rg) (B : Nat) (pre : List Int) : Prop where
  st : St w W D b g L
  row : ∃ ta tc gt tO, Boxed W B 23 (.slice ta pre.length tc) ∧ Row w W D b g ta pre.length tc gt tO pre
section
variable {w W W' : World} {D b g : Nat} {L : Rg} {B : Nat} {pre : List Int}
theorem CW.step {Z : Nat} (h : CW w W D b g L B pre) (st : Step Z W W') (hb : b < Z) (hw : w.heap.size ≤ Z) : CW w W' D b g L B pre := by
  obtain ⟨ta, tc, gt, tO, h1, h2⟩ := h.row
  exact ⟨h.st.step st hb hw, ta, tc, gt, tO, boxed_step h1 st, h2.step st⟩
theorem CW.below (h : CW w W D b g L B pre) (k : Below W.heap.size W W') : CW w W' D b g L B pre := by
  obtain ⟨ta, tc, gt, tO, h1, h2⟩ := h.row
  exact ⟨h.st.belowW k, ta, tc, gt, tO, boxed_below h1 k, h2.below k⟩
end
theorem St.marks {w W W' : World} {D b g : Nat} {L : Rg} (s : St w W D b g L) {B : Nat} {Ds : List Nat} (m : Marks B W Ds) (t : Tri W W' D g b) : Marks B W' Ds :=
  ⟨fun D' hD => ⟨(m.lay D' hD).1, by
    have h := (m.lay D' hD).2
    obtain ⟨a, c, o, k⟩ := s.ck
    have hmb : D' ≠ b := by
      rintro rfl
      obtain ⟨es, clock, h1, _⟩ := k.map
      rw [h] at h1; cases h1
    refine (t.block D' (m.lt hD) (fun e => ?_) (fun e => ?_) hmb).trans h
    · subst e
      obtain ⟨cs, h1, _⟩ := k.srow
      rw [h] at h1; cases h1
    · by_cases ha : a = none
      · rw [k.gb ha] at e; exact hmb e
      · obtain ⟨cs, h1, _⟩ := k.ring.blk ha
        rw [← e, h] at h1; cases h1⟩, m.nd⟩
theorem Marks.stepD {B : Nat} {w w' : World} {Ds : List Nat} (m : Marks B w Ds) {Z : Nat} (k : Step Z w w') (hD : ∀ D ∈ Ds, D < Z) : Marks B w' Ds :=
  ⟨fun D h => ⟨(m.lay D h).1, ((k.below (B' := D + 1) (hD D h) (m.lt h)).block D (Nat.lt_succ_self D)).trans (m.lay D h).2⟩, m.nd⟩
theorem Marks.moved {B : Nat} {w0 w w' : World} {D b g : Nat} {a : Option Addr} {n c gt o g' : Nat} {xs : List Int} {Ds : List Nat} (m : Marks B w Ds) (r : Row w0 w D b g a n c gt o xs) (hm : Moved w w' a gt g') : Marks B w' Ds := by
  rcases hm with ⟨h4, _, h5⟩ | ⟨_, h5⟩
  · refine m.only h5 fun o ho => ?_
    obtain ⟨cs, h1, _⟩ := r.ring.blk h4
    rw [h1] at ho; cases ho; rfl
  · exact m.below h5
end Go.Proofs.Ythgajdaiklfjhaa
