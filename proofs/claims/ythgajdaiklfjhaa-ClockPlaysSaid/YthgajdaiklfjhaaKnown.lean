/-
  A clock that the call made; the walks of Active and of 'known'.
-/
import Derived.Test.YthgajdaiklfjhaaIter
namespace Go.Proofs.Ythgajdaiklfjhaa
open Go.RowKit
attribute [local go_sem] Oper.semAt_some

/-- A clock that the call made, and nothing turned that was there. -/
structure St (w0 w : World) (D b g : Nat) (L : Rg) : Prop where
  ck : ∃ a c o, CK w w0.heap.size D b a L.length c g o L
  below : Below w0.heap.size w0 w
  own : w0.heap.size ≤ D
section
variable {w0 w w' : World} {D b g : Nat} {L : Rg}
theorem St.ok (s : St w0 w D b g L) : OkC L := by obtain ⟨a, c, o, k⟩ := s.ck; exact k.ok
theorem St.ltD (s : St w0 w D b g L) : w0.heap.size ≤ D ∧ D < w.heap.size := ⟨s.own, by obtain ⟨a, c, o, k⟩ := s.ck; exact k.srow.lt⟩
theorem St.ltb (s : St w0 w D b g L) : w0.heap.size ≤ b ∧ b < w.heap.size := by obtain ⟨a, c, o, k⟩ := s.ck; exact k.ltb
theorem St.ltg (s : St w0 w D b g L) : w0.heap.size ≤ g ∧ g < w.heap.size := by obtain ⟨a, c, o, k⟩ := s.ck; exact k.ltg
theorem St.belowW (s : St w0 w D b g L) (k : Below w.heap.size w w') : St w0 w' D b g L := by
  obtain ⟨a, c, o, h⟩ := s.ck
  exact ⟨⟨a, c, o, h.below k⟩, below_then s.below k, s.own⟩
theorem St.only (s : St w0 w D b g L) {d : Nat} (k : Only w w' d) (h : D ≠ d ∧ g ≠ d ∧ b ≠ d) (hd : w0.heap.size ≤ d) : St w0 w' D b g L := by
  obtain ⟨a, c, o, h'⟩ := s.ck
  exact ⟨⟨a, c, o, h'.only k h⟩, below_only s.below k hd, s.own⟩
theorem St.step {B : Nat} (s : St w0 w D b g L) (k : Step B w w') (hB : b < B) (hw : w0.heap.size ≤ B) : St w0 w' D b g L := by
  obtain ⟨a, c, o, h⟩ := s.ck
  obtain ⟨row, hg, hr⟩ := k.grown
  have hb : w'.heap[b]? = w.heap[b]? := hg.block b h.ltb.2 (fun e => by have := (hr b e.symm).1; omega)
  refine ⟨⟨a, c, o, rowIs_step h.srow k, ?_, h.map.of_block hb, h.mb, h.ok, h.gb⟩, s.below.trans (k.below hw s.below.size), s.own⟩
  refine h.ring.of_block fun ha => ?_
  obtain ⟨cs, h1, _⟩ := h.ring.blk ha
  exact k.cells h1
/-- What a call that turns it leaves. -/
theorem St.turned (s : St w0 w D b g L) {a' : Option Addr} {c' g' o' : Nat} {L' : Rg} (k : CK w' w0.heap.size D b a' L'.length c' g' o' L') (t : Tri w w' D g b) : St w0 w' D b g' L' :=
  ⟨⟨a', c', o', k⟩, below_tri s.below t s.own s.ltg.1 s.ltb.1, s.own⟩
theorem new_st (hb : Below w0.heap.size w0 w) : Calls Try.prog 10 #[] w fun e w' => e = .returned (.pointer (some ⟨w.heap.size + 1, 0, none⟩)) ∧ St w0 w' (w.heap.size + 1) w.heap.size w.heap.size [] ∧ Below w.heap.size w w' := by
  refine (new_any w).mono ?_
  rintro e w' ⟨rfl, rfl⟩
  exact ⟨rfl, ⟨⟨none, 0, 0, ck_new w hb.size⟩, below_then hb (below_newC _), by have := hb.size; omega⟩, below_newC _⟩
/-- A call's contract: the answer, what is left, and which blocks turned. -/
def Turned (w0 w w' : World) (D b g : Nat) (L' : Rg) : Prop := ∃ g', (g' = g ∨ w.heap.size ≤ g') ∧ St w0 w' D b g' L' ∧ Tri w w' D g b
theorem add_st (s : St w0 w D b g L) (hn : L.length ≤ 1000000) {f : Int} (hf : kdI f) {e : Int} {L' : Rg} (h : addC L f = (e, L')) :
    Calls Try.prog 14 #[.pointer (some ⟨D, 0, none⟩), .int .i64 f] w fun r w' => r = .returned (.int .i64 e) ∧ Turned w0 w w' D b g L' := by
  obtain ⟨a, c, o, k⟩ := s.ck
  have := add_any k s.below.size hn hf
  rw [h] at this
  exact this.mono fun _ _ ⟨he, a', c', g', o', k', hg, t⟩ => ⟨he, g', hg, s.turned k' t, t⟩
theorem remove_st (s : St w0 w D b g L) {f : Int} (hf : kdI f) {e : Int} {L' : Rg} (h : removeC L f = (e, L')) :
    Calls Try.prog 11 #[.pointer (some ⟨D, 0, none⟩), .int .i64 f] w fun r w' => r = .returned (.int .i64 e) ∧ Turned w0 w w' D b g L' := by
  obtain ⟨a, c, o, k⟩ := s.ck
  have := remove_any k hf
  rw [h] at this
  exact this.mono fun _ _ ⟨he, k', t⟩ => ⟨he, g, .inl rfl, s.turned k' t, t⟩
theorem touch_st (s : St w0 w D b g L) {f : Int} (hf : kdI f) {e : Int} {L' : Rg} (h : touchC L f = (e, L')) :
    Calls Try.prog 12 #[.pointer (some ⟨D, 0, none⟩), .int .i64 f] w fun r w' => r = .returned (.int .i64 e) ∧ Turned w0 w w' D b g L' := by
  obtain ⟨a, c, o, k⟩ := s.ck
  have := touch_any k hf
  have hl := len_touchC L f
  rw [h] at this hl
  refine this.mono fun _ _ ⟨he, k', t⟩ => ⟨he, g, .inl rfl, s.turned (by rw [hl]; exact k') ?_, ?_⟩
  all_goals exact ⟨t.os, t.tape, t.output, t.size, fun i hi h1 _ h3 => t.block i hi h1 h3 h3⟩
theorem next_st (s : St w0 w D b g L) (hn : L.length ≤ 1000000) {t : Option Int} {L' : Rg} (h : nextC L = (t, L')) :
    Calls Try.prog 13 #[.pointer (some ⟨D, 0, none⟩)] w fun r w' => r = .returned (toldV t) ∧ Turned w0 w w' D b g L' := by
  obtain ⟨a, c, o, k⟩ := s.ck
  have := next_any k s.below.size hn
  have hl := len_nextC L
  rw [h] at this hl
  exact this.mono fun _ _ ⟨he, a', c', g', o', k', hg, tr⟩ => ⟨he, g', hg, s.turned (by rw [hl]; exact k') tr, tr⟩
theorem len_st (s : St w0 w D b g L) {n : Nat} (h : L.length = n) : Calls Try.prog 15 #[.pointer (some ⟨D, 0, none⟩)] w fun r w' => r = .returned (.int .i64 n) ∧ w = w' := by
  obtain ⟨a, c, o, k⟩ := s.ck
  rw [h] at k
  exact len_any k
theorem has_st (s : St w0 w D b g L) {f : Int} (hf : kdI f) {x : Bool} (h : hasC L f = x) : Calls Try.prog 16 #[.pointer (some ⟨D, 0, none⟩), .int .i64 f] w fun r w' => r = .returned (.bool x) ∧ Below w.heap.size w w' := by
  obtain ⟨a, c, o, k⟩ := s.ck
  rw [← h]
  exact has_any k hf
theorem copy_st (s : St w0 w D b g L) (hn : L.length ≤ 1000000) : Calls Try.prog 19 #[.pointer (some ⟨D, 0, none⟩)] w fun r w' =>
    ∃ D' b' g', r = .returned (.pointer (some ⟨D', 0, none⟩)) ∧ w.heap.size ≤ D' ∧ w.heap.size ≤ b' ∧ w.heap.size ≤ g' ∧ St w0 w' D' b' g' L ∧ Below w.heap.size w w' := by
  obtain ⟨a, c, o, k⟩ := s.ck
  refine (copy_any k hn).mono ?_
  rintro e w' ⟨D', b', a', c', g', o', rfl, hD, k', bl⟩
  have hs := s.below.size
  refine ⟨D', b', g', rfl, hD, k'.ltb.1, k'.ltg.1, ⟨⟨a', c', o', k'.srow, k'.ring.baseLe hs, k'.map, Nat.le_trans hs k'.mb, k'.ok, k'.gb⟩, below_then s.below bl, by omega⟩, bl⟩
theorem tells_st (s : St w0 w D b g L) (hn : L.length ≤ 1000000) {X : Nat} (hX : Boxed w X 25 (.pointer (some ⟨D, 0, none⟩))) {B : Nat} {Mod : Nat → Prop} (hah : Ahead w B Mod)
    {α : Type} (val : α → Int) {Ls : List α} (hv : Ls.map val = L.map Prod.fst) : TellsS Try.prog 28 #[.pointer (some ⟨X, 0, none⟩)] (fun x : α => #[.int .i64 (val x)]) (SafeB B Mod) Ls w := by
  obtain ⟨a, c, o, k⟩ := s.ck
  exact tells_all k hn hX hah val hv
end
/-- What the ring's next calls see of it. -/
theorem Turned.size {w0 w w' : World} {D b g : Nat} {L' : Rg} (h : Turned w0 w w' D b g L') : w.heap.size ≤ w'.heap.size := by obtain ⟨_, _, _, t⟩ := h; exact t.size

set_option maxHeartbeats 1000000 in
theorem known_any (w : World) : Calls Try.prog 9 #[] w fun e w' => e = .returned (.bool true) ∧ Below w.heap.size w w' := by
  have e1 : addC [] 1 = (0, [(1, (true, true))]) := by decide
  have e2 : addC [(1, (true, true))] 2 = (0, [(1, (true, true)), (2, (true, true))]) := by decide
  have e3 : addC [(1, (true, true)), (2, (true, true))] 3 = (0, [(1, (true, true)), (2, (true, true)), (3, (true, true))]) := by decide
  have e4 : nextC [(1, (true, true)), (2, (true, true)), (3, (true, true))] = (some 1, [(2, (false, false)), (3, (false, false)), (1, (false, false))]) := by decide
  have e5 : touchC [(2, (false, false)), (3, (false, false)), (1, (false, false))] 2 = (0, [(2, (false, true)), (3, (false, false)), (1, (false, false))]) := by decide
  have e6 : nextC [(2, (false, true)), (3, (false, false)), (1, (false, false))] = (some 3, [(1, (false, false)), (2, (true, false)), (3, (false, false))]) := by decide
  have e7 : nextC [(1, (false, false)), (2, (true, false)), (3, (false, false))] = (some 1, [(2, (true, false)), (3, (false, false)), (1, (false, false))]) := by decide
  have E1 := Lib.hid e1
  have E2 := Lib.hid e2
  have E3 := Lib.hid e3
  have E4 := Lib.hid e4
  have E5 := Lib.hid e5
  have E6 := Lib.hid e6
  have E7 := Lib.hid e7
  clear e1 e2 e3 e4 e5 e6 e7
  go_enter Try.func9, Try.ntmps9
  go_wp2_with fail
  refine (new_st (Below.refl _ w)).mono ?_
  rintro e w1 ⟨rfl, s1, _⟩
  generalize w.heap.size + 1 = D at *
  go_wp2_with fail
  refine (add_st s1 (by decide) (wf64 (by omega) (by omega)) E1.out).mono ?_
  rintro e w2 ⟨rfl, g2, _, s2, _⟩
  go_wp2_with fail
  refine (add_st s2 (by decide) (wf64 (by omega) (by omega)) E2.out).mono ?_
  rintro e w3 ⟨rfl, g3, _, s3, _⟩
  go_wp2_with fail
  refine (add_st s3 (by decide) (wf64 (by omega) (by omega)) E3.out).mono ?_
  rintro e w4 ⟨rfl, g4, _, s4, _⟩
  go_wp2_with fail
  refine (next_st s4 (by decide) E4.out).mono ?_
  rintro e w5 ⟨rfl, g5, _, s5, _⟩
  unfold toldV
  go_wp2_with fail
  refine (touch_st s5 (wf64 (by omega) (by omega)) E5.out).mono ?_
  rintro e w6 ⟨rfl, g6, _, s6, _⟩
  go_wp2_with fail
  refine (next_st s6 (by decide) E6.out).mono ?_
  rintro e w7 ⟨rfl, g7, _, s7, _⟩
  unfold toldV
  go_wp2_with fail
  refine (next_st s7 (by decide) E7.out).mono ?_
  rintro e w8 ⟨rfl, g8, _, s8, _⟩
  unfold toldV
  go_wp2_with fail
  refine (len_st s8 (n := 3) rfl).mono ?_
  rintro e w9 ⟨rfl, rfl⟩
  go_wp2_with fail
  go_ret
  exact ⟨rfl, s8.below⟩

/-- Is a frame active? -/
def actP (L : Rg) (f : Int) : Bool := ((markO L f).map Prod.fst).getD false
def cntS (L : Rg) (pre : List { x : Int // kdI x }) : Nat := ((pre.map Subtype.val).filter (actP L)).length
theorem cntS_snoc (L : Rg) (pre : List { x : Int // kdI x }) (x : { x : Int // kdI x }) : cntS L (pre ++ [x]) = cntS L pre + if actP L x.1 then 1 else 0 := by
  unfold cntS
  rw [List.map_append, List.filter_append, List.length_append]
  cases h : actP L x.1 <;> simp [h]
theorem cntS_le (L : Rg) (pre : List { x : Int // kdI x }) : cntS L pre ≤ pre.length := by
  unfold cntS
  have := List.length_filter_le (actP L) (pre.map Subtype.val)
  simpa using this
theorem lift_kd : ∀ (xs : List Int), (∀ x ∈ xs, kdI x) → ∃ Ls : List { x : Int // kdI x }, Ls.map Subtype.val = xs
  | [], _ => ⟨[], rfl⟩
  | x :: r, h => by
    obtain ⟨Ls, h1⟩ := lift_kd r fun y hy => h y (List.mem_cons_of_mem _ hy)
    exact ⟨⟨x, h x List.mem_cons_self⟩ :: Ls, by rw [List.map_cons, h1]⟩
/-- How many are active. -/
def actN (L : Rg) : Nat := ((L.map Prod.fst).filter (actP L)).length
theorem field55 (p r : Bool) (W : World) : (Instr.field 55 (.agg #[.bool p, .bool r]) 0).run Try.prog W = .ok (.bool p) W := by kernel_rfl
set_option maxHeartbeats 2000000 in
theorem active_st {w0 w : World} {D b g : Nat} {L : Rg} (s : St w0 w D b g L) (hn : L.length ≤ 1000000) : Calls Try.prog 18 #[.pointer (some ⟨D, 0, none⟩)] w fun e w' => e = .returned (.int .i64 (actN L)) ∧ Below w.heap.size w w' := by
  have hkd : ∀ x ∈ L.map Prod.fst, kdI x := fun x hx => by
    obtain ⟨a, c, o, k⟩ := s.ck
    obtain ⟨⟨f, m⟩, hy, rfl⟩ := List.mem_map.1 hx
    exact k.map.kd KI (x := f) (v := encM m) (by unfold mapC; rw [markO_of k.ok hy]; rfl)
  obtain ⟨Ls, hLs⟩ := lift_kd _ hkd
  have hfin : cntS L Ls = actN L := by unfold cntS actN; rw [hLs]
  have hLl : Ls.length = L.length := by have := congrArg List.length hLs; simpa using this
  refine calls_of_wp_marks Try.func18 rfl ?_
  simp only [Try.ntmps18, List.size_toArray, List.length_cons, List.length_nil, Nat.reduceAdd, Nat.reduceSub, Array.replicate_succ, Array.replicate_zero, List.push_toArray, List.append_toArray, List.nil_append, List.cons_append]
  have b1 := below_new w (.cells #[.pointer (some ⟨D, 0, none⟩)] 25)
  have b2 := below_alloc b1 (.cells #[.int .i64 0] 3)
  have c2 := (Boxed.new w 25 (.pointer (some ⟨D, 0, none⟩))).alloc (.cells #[.int .i64 0] 3)
  have n2 := Boxed.new (w.alloc (.cells #[.pointer (some ⟨D, 0, none⟩)] 25)) 3 (.int .i64 0)
  rw [World.size_alloc] at n2
  have s2 := s.belowW b2
  have hsz : ((w.alloc (.cells #[.pointer (some ⟨D, 0, none⟩)] 25)).alloc (.cells #[.int .i64 0] 3)).heap.size = w.heap.size + 2 := by simp
  have cc := c2.cell
  have hDl := s.ltD
  have hbl := s.ltb
  have hgl := s.ltg
  have HLS := Lib.hid hLs
  have HF := Lib.hid hfin
  have HLL := Lib.hid hLl
  clear s b1 hLs hfin hkd hLl
  go_wp2_with fail
  generalize (w.alloc (.cells #[.pointer (some ⟨D, 0, none⟩)] 25)).alloc (.cells #[.int .i64 0] 3) = W2 at *
  refine (all_any (some ⟨D, 0, none⟩) W2).mono ?_
  rintro e W3 ⟨rfl, rfl⟩
  have b3 := below_new W2 (.cells #[.pointer (some ⟨D, 0, none⟩)] 25)
  have s3 := s2.belowW b3
  have c3 := boxed_below c2 b3
  have n3 := boxed_below n2 b3
  have hX := Boxed.new W2 25 (.pointer (some ⟨D, 0, none⟩))
  rw [hsz] at hX
  have b4 := below_then b2 b3
  clear s2 c2 n2 cc
  go_wp2_with fail
  generalize W2.alloc (.cells #[.pointer (some ⟨D, 0, none⟩)] 25) = W3 at *
  have hah : Ahead W3 (w.heap.size + 1) (· = w.heap.size + 1) := ⟨fun k hk => by rw [hk]; exact n3.lt, n3.lt, fun d o n c hd => by rw [n3.cell] at hd; cases hd⟩
  have hT := tells_st s3 hn hX hah Subtype.val HLS.out
  have HT := Lib.hid hT
  have HAH := Lib.hid hah
  have hw0 := s3.below.size
  have hb3 := s3.ltb.2
  have hw3 := b4.size
  clear hT hah hX b3
  refine wp_rangeS1 (α := { x : Int // kdI x }) 7 4 (gf := 28) (lb := #[.pointer (some ⟨w.heap.size + 2, 0, none⟩)]) rfl (fun _ _ => by kernel_rfl) HT.out HAH.out
    (fun pre W => St w0 W D b g L ∧ Boxed W w.heap.size 25 (.pointer (some ⟨D, 0, none⟩)) ∧ Boxed W (w.heap.size + 1) 3 (.int .i64 (cntS L pre : Int)) ∧ Below w.heap.size w W ∧ W3.heap.size ≤ W.heap.size)
    (fun _ _ _ => False)
    (fun pre W W' h st => ⟨h.1.step st hb3 hw0, boxed_step h.2.1 st, boxed_step h.2.2.1 st, h.2.2.2.1.trans (st.below hw3 h.2.2.2.1.size), Nat.le_trans h.2.2.2.2 st.size⟩) (fun _ _ _ _ h _ => h) ⟨s3, c3, n3, b4, Nat.le_refl _⟩ ?assign ?body ?done ?stop
  case assign =>
    intro l x W K hK
    gi_wp2
    exact hK
  case stop =>
    rintro M c pre W hM hpre hx hk
    exact hx.elim
  case done =>
    rintro M W hM ⟨s4, c4, n4, b5, -⟩ hk
    rw [HF.out] at n4
    have cn := n4.cell
    have mk : Marks w.heap.size W [M] := ⟨fun D' h' => by obtain rfl := List.mem_singleton.1 h'; exact ⟨by omega, hk⟩, by simp⟩
    go_wp2_with fail
    refine leaves_marks (B := w.heap.size) [M] _ b5.size mk ?_
    intro w' sh
    exact ⟨_, results_tmp rfl _ _ _, rfl, b5.trans sh.below⟩
  case body =>
    rintro l pre x W hl ⟨s4, c4, n4, b5, hsz4⟩ hlen
    rw [HLL.out] at hlen
    simp only [List.setIfInBounds_toArray, List.set_cons_zero, List.set_cons_succ]
    obtain ⟨x, hx⟩ := x
    obtain ⟨a, c, o, k⟩ := s4.ck
    have c0 := c4.cell
    have d1 := k.s1
    have cn := n4.cell
    have fn := n4.frozen
    have hlk := k.look hx W rfl false
    have hle := cntS_le L pre
    have hcn := cntS_snoc L pre ⟨x, hx⟩
    simp only at hcn
    generalize cntS L pre = q at *
    have HCN := Lib.hid hcn
    have hBl : w.heap.size + 1 < W.heap.size := n4.lt
    have hap : ∀ m, ((markO L x).map encM).getD (encM (false, false)) = encM m → actP L x = m.1 := by
      intro m hm
      unfold actP
      cases h : markO L x with
      | none => rw [h] at hm; simp [encM] at hm; simp [hm.1]
      | some m' => rw [h] at hm; simp [encM] at hm; simp [hm.1]
    obtain ⟨m, hm⟩ : ∃ m, ((markO L x).map encM).getD (encM (false, false)) = encM m := by
      cases h : markO L x with
      | none => exact ⟨_, rfl⟩
      | some m' => exact ⟨m', rfl⟩
    have ha := hap m hm
    rw [hm] at hlk
    obtain ⟨p, r⟩ := m
    simp only [encM, Bool.false_eq_true, if_false] at hlk
    simp only at ha
    have HA := Lib.hid ha
    have hfld := field55 p r
    have on := only_set (only_refl W (w.heap.size + 1)) 0 (.int .i64 ((q : Int) + 1))
    have hs5 := s4.only on ⟨by omega, by omega, by omega⟩ (by omega)
    have HS5 := Lib.hid (And.intro hs5 (And.intro (boxed_only c4 on (by omega)) (And.intro (n4.set (.int .i64 ((q : Int) + 1))) (below_only b5 on (by omega)))))
    have HS4 := Lib.hid (And.intro s4 (And.intro c4 (And.intro n4 b5)))
    have HZ := Lib.hid hsz4
    clear ha hap hm hcn on hs5 s4 c4 n4 b5 k hsz4
    cases p with
    | false =>
      gi_wp2
      rw [HA.out] at HCN
      have hq : cntS L (pre ++ [⟨x, hx⟩]) = q := by have := HCN.out; simpa using this
      exact ⟨KeepsFrom.refl _ _, kpS_refl _ _, HS4.out.1, HS4.out.2.1, by rw [hq]; exact HS4.out.2.2.1, HS4.out.2.2.2, HZ.out⟩
    | true =>
      gi_wp2
      rw [HA.out] at HCN
      have hq : (cntS L (pre ++ [⟨x, hx⟩]) : Int) = (q : Int) + 1 := by have := HCN.out; simp at this; omega
      exact ⟨keeps_set _ _ _, kpS_set rfl hBl (fun _ e o n c => by simp) (by rw [HS4.out.2.2.1.cell]; rfl), HS5.out.1, HS5.out.2.1, by rw [hq]; exact HS5.out.2.2.1, HS5.out.2.2.2, by simpa [World.setCell] using HZ.out⟩
end Go.Proofs.Ythgajdaiklfjhaa
