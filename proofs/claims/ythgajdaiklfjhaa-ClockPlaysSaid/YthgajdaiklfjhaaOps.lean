/-
  The walks of Add, Touch, Next.
-/
import Derived.Test.YthgajdaiklfjhaaTab
import Derived.Laws.StructEq
import Derived.Deep.DeepCutAuto
import Derived.Deep.CutBlock
import Derived.Deep.LoopGhost
namespace Go.Proofs.Ythgajdaiklfjhaa
open Go.RowKit

/-- An append's world: in place, or anew. -/
def Moved (w w' : World) (a : Option Addr) (g g' : Nat) : Prop := (a ≠ none ∧ g' = g ∧ Only w w' g) ∨ (g' = w.heap.size ∧ Below w.heap.size w w')
section
variable {P : Program} (w : World)
theorem wpList_append_ring {ops : Array Oper} {rest : List Oper} {o : Oper} {ac : Act} {Q : Exit → Act → World → Prop} (hgd : o.guard = none) (s x : Operand) (t : TypeId)
    (ho : o.op = .call { callee := .builtin .append, args := #[s, x], argTypes := #[t, t] })
    {base e n c g of : Nat} {a : Option Addr} {xs : List Int} {i : TypeInfo} {z : Value} (ht : P.underlying t = some (.slice e)) (hi : P.info? e = some i) (hz : i.zero = some z) (hs : i.size = 1) (hb : i.bytes = 8) (hzc : z.cells.size = 1)
    (h : RingAt w base e a n c g of xs) (hsv : ac.eval s = .slice a n c) {A : Nat} {y : Int} (hxv : ac.eval x = .slice (some ⟨A, 0, none⟩) 1 1) (hA : w.cell? ⟨A, 0, none⟩ = some (.int .i64 y)) (hn : n ≤ 1000000) (hbase : base ≤ w.heap.size)
    (hK : ∀ a' c' g' o' w', RingAt w' base e a' (n + 1) c' g' o' (xs ++ [y]) → a' ≠ none → Moved w w' a g g' → wpList P ops Q rest (ac.put o.dst (.slice a' (n + 1) c')) w') :
    wpList P ops Q (o :: rest) ac w := by
  refine wpList_plain hgd fun _ hK' => ?_
  obtain ⟨a', c', g', o', w', hrun, h1, h2, h3⟩ := run_append_ring (ty := o.type) h ht hi hz hs hb hzc hA hn hbase
  unfold Oper.wp execOp
  simp only [ho, resolve, invoke, builtin, Sem.run_bind, Sem.run_pure, Result.andThen_ok, List.map_toArray, List.map_cons, List.map_nil, hsv, hxv, hrun]
  exact hK' _ _ (hK a' c' g' o' w' h1 h2 h3)
end
theorem info3 : (Try.prog.info? 3).map (fun i => (i.zero, i.size, i.bytes)) = some (some (.int .i64 0), 1, 8) := by kernel_rfl
theorem eq55 (a b c d : Bool) (w : World) : (Op.equalIn 10000 55 (.agg #[.bool a, .bool b]) (.agg #[.bool c, .bool d])).run Try.prog w = .ok (a == c && b == d) w := by
  have u4 := Try.underlying4
  have hS : Try.prog.underlying 55 = some (.struct (Try.prog.fieldsOf 55)) := by kernel_rfl
  have hp : Try.prog.stoodInHeld 55 = false := by kernel_rfl
  rw [show (10000 : Nat) = 9999 + 1 from rfl, run_equalIn_agg w 9999 55 _ _ hS hp]
  simp only [Program.fieldsOf, Try.underlying55]
  go_simp
  cases a <;> cases b <;> cases c <;> cases d <;> simp

section
variable {w w' : World} {base D b n c g o : Nat} {a : Option Addr} {L : Rg}
/-- Behind an append, and the store of what came of it. -/
theorem CK.reset (s : CK w base D b a n c g o L) {w3 : World} {a' : Option Addr} {m c' g' o' : Nat} {xs' : List Int} (hr : RingAt w3 base 3 a' m c' g' o' xs') (ha : a' ≠ none)
    (hk : Moved w w3 a g g') :
    (w3.setCell ⟨D, 0, none⟩ (.slice a' m c')).rowIs D 50 2 (topC a' m c' b) ∧ RingAt (w3.setCell ⟨D, 0, none⟩ (.slice a' m c')) base 3 a' m c' g' o' xs' ∧ MapAt encI kdI (w3.setCell ⟨D, 0, none⟩ (.slice a' m c')) b (mapC L) ∧
      Tri w (w3.setCell ⟨D, 0, none⟩ (.slice a' m c')) D g b ∧ (g' = g ∨ w.heap.size ≤ g') ∧ g' ≠ D ∧ b ≠ g' ∧ w3.cell? ⟨D, 0, none⟩ = some (.slice a n c) ∧ w3.frozen? ⟨D, 0, none⟩ = false := by
  have hDl := s.srow.lt
  have hbl := s.ltb.2
  have hneb := s.neb
  have hneg := s.neg
  have h3 : w3.rowIs D 50 2 (topC a n c b) ∧ MapAt encI kdI w3 b (mapC L) ∧ Tri w w3 D g b ∧ (g' = g ∨ w.heap.size ≤ g') ∧ g' ≠ D ∧ b ≠ g' := by
    rcases hk with ⟨h1, rfl, h2⟩ | ⟨rfl, h2⟩
    · exact ⟨rowIs_only s.srow h2 hneg.symm, s.map.only h2 (s.nebg h1), tri_only h2 (.inr (.inl rfl)), .inl rfl, hneg, s.nebg h1⟩
    · exact ⟨rowIs_below s.srow h2, s.map.below h2, tri_below h2 _ _ _, .inr (Nat.le_refl _), by omega, by omega⟩
  obtain ⟨r1, r2, r3, r4, r5, r6⟩ := h3
  have on := only_set (only_refl w3 D) 0 (.slice a' m c')
  refine ⟨(r1.set 0 _).congr (fun i hi => ?_), hr.only on (fun _ => r5), r2.only on hneb, tri_trans r3 (tri_only on (.inl rfl)) (.inl rfl), r4, r5, r6, r1.cell (i := 0) (by omega), r1.frozen 0⟩
  rcases (show i = 0 ∨ i = 1 by omega) with rfl | rfl <;> rfl
theorem mark_add {L : Rg} (o : OkC L) {f : Int} (h0 : 0 ≤ f) (hf : hasC L f = false) (m : Mk) (y : Int) : putM (mapC L) f (encM m) y = mapC (L ++ [(f, m)]) y := by
  unfold putM mapC
  have o' := okC_add o h0 hf m
  by_cases e : y = f
  · subst e
    rw [if_pos rfl, markO_of o' (List.mem_append_right _ (List.mem_singleton_self _))]; rfl
  · rw [if_neg e, markO_congr o o' (g := y) (fun m' => by simp [e])]
set_option maxHeartbeats 1000000 in
theorem add_any (s : CK w base D b a n c g o L) (hB : base ≤ w.heap.size) (hn : n ≤ 1000000) {f : Int} (hf : kdI f) : Calls Try.prog 14 #[.pointer (some ⟨D, 0, none⟩), .int .i64 f] w fun e w' =>
    e = .returned (.int .i64 (addC L f).1) ∧ ∃ a' c' g' o', CK w' base D b a' (addC L f).2.length c' g' o' (addC L f).2 ∧ (g' = g ∨ w.heap.size ≤ g') ∧ Tri w w' D g b := by
  have hlen := s.len
  by_cases h0 : f < 0
  · have e0 : addC L f = (2, L) := by unfold addC; rw [if_pos h0]
    rw [e0]; clear e0
    rw [hlen]
    go_enter Try.func14, Try.ntmps14
    go_wp2_with (go_at_call 25; refine (none_any s).mono ?_; rintro e w' ⟨rfl, rfl⟩)
    go_ret
    exact ⟨rfl, _, _, _, _, s, .inl rfl, tri_refl _ _ _ _⟩
  · cases hh : hasC L f with
    | true =>
      have e0 : addC L f = (8, L) := by unfold addC; rw [if_neg h0, hh]; rfl
      rw [e0]; clear e0
      rw [hlen]
      have HH := Lib.hid hh
      clear hh
      go_enter Try.func14, Try.ntmps14
      go_wp2_with (first
        | (go_at_call 25; refine (none_any s).mono ?_; rintro e w' ⟨rfl, rfl⟩)
        | (go_at_call 16; refine (has_any s hf).mono ?_; rintro e w1 ⟨rfl, b1⟩; rw [HH.out]))
      go_ret
      exact ⟨rfl, _, _, _, _, s.below b1, .inl rfl, tri_below b1 _ _ _⟩
    | false =>
      have e0 : addC L f = (0, L ++ [(f, (true, true))]) := by unfold addC; rw [if_neg h0, hh]; rfl
      have E0 := Lib.hid e0
      have HH := Lib.hid hh
      have HP := Lib.hid (show 0 ≤ f by omega)
      have HL := Lib.hid hlen
      clear e0 hh hlen
      obtain ⟨i0, hi, hz0, hz1, hz2⟩ := info_parts info3
      go_enter Try.func14, Try.ntmps14
      go_wp2_with (first
        | (go_at_call 25; refine (none_any s).mono ?_; rintro e w' ⟨rfl, rfl⟩))
      refine (has_any s hf).mono ?_
      rintro e w1 ⟨rfl, b1⟩
      rw [HH.out]
      have s1 := s.below b1
      have bA := below_new w1 (.cells #[.int .i64 f] 3)
      have s2 := s1.below bA
      have r0 := s1.s0
      have hA : (w1.alloc (.cells #[.int .i64 f] 3)).cell? ⟨w1.heap.size, 0, none⟩ = some (.int .i64 f) := by rw [World.cell?_alloc_new]; rfl
      have hB2 : base ≤ (w1.alloc (.cells #[.int .i64 f] 3)).heap.size := by have := b1.size; simp; omega
      have HA := Lib.hid hA
      clear hA
      go_wp2_with (at_builtin; refine wpList_append_ring _ rfl (.tmp 19) (.tmp 21) 23 rfl Try.underlying23 hi hz0 hz1 hz2 rfl s2.ring rfl rfl HA.out hn hB2 ?_)
      intro a' c' g' o' w3 hr ha hk
      obtain ⟨t1, t2, t3, t4, t5, t6, t7, t8, t9⟩ := s2.reset hr ha hk
      have m1 : (w3.setCell ⟨D, 0, none⟩ (.slice a' (n + 1) c')).cell? ⟨D, 1, none⟩ = some (.map (some b)) := t1.cell (i := 1) (by omega)
      clear hr hk r0
      go_wp2_with (at_mapUpdate; refine wpList_store_map _ rfl (.tmp 28) (.tmp 29) (.tmp 30) 48 rfl Try.underlying48 KI (M := mapC L) t3 rfl f hf rfl (encM (true, true)) rfl ?_)
      intro w5 t10 o5
      go_wp2_with fail
      go_ret
      rw [E0.out]
      have hl2 : (L ++ [(f, (true, true))]).length = n + 1 := by rw [List.length_append, HL.out]; rfl
      have hx : (L ++ [(f, (true, true))]).map Prod.fst = L.map Prod.fst ++ [f] := by rw [List.map_append]; rfl
      refine ⟨rfl, a', c', g', o', ?_, ?_, ?_⟩
      · show CK w5 base D b a' (L ++ [(f, (true, true))]).length c' g' o' (L ++ [(f, (true, true))])
        rw [hl2]
        exact ⟨rowIs_only t1 o5 s.neb.symm, by rw [hx]; exact t2.only o5 (fun _ => t7.symm), t10.congr (mark_add s.ok HP.out HH.out _), s.mb, okC_add s.ok HP.out HH.out _, fun h => absurd h ha⟩
      · have := b1.size
        rcases t5 with h | h
        · exact .inl h
        · simp at h; exact .inr (by omega)
      · exact tri_trans (tri_trans (tri_trans (tri_below b1 D g b) (tri_below bA D g b) (.inl rfl)) t4 (.inl rfl)) (tri_only o5 (.inr (.inr rfl))) (.inl rfl)

theorem mark_touch {L : Rg} (o : OkC L) {f : Int} {m : Mk} (hm : (f, m) ∈ L) (y : Int) : putM (mapC L) f (encM (m.1, true)) y = mapC (L.map (touchE f)) y := by
  unfold putM mapC
  have o' := okC_touch o f
  by_cases e : y = f
  · subst e
    rw [if_pos rfl, markO_of o' (List.mem_map.2 ⟨_, hm, by unfold touchE; rw [if_pos rfl]⟩)]; rfl
  · rw [if_neg e, markO_congr o o' (g := y) (fun m' => ?_)]
    rw [List.mem_map]
    constructor
    · intro h
      exact ⟨_, h, by unfold touchE; rw [if_neg e]⟩
    · rintro ⟨⟨z, mz⟩, h, h'⟩
      unfold touchE at h'
      split at h'
      · rename_i hz
        simp at hz
        cases h'
        exact absurd hz e
      · cases h'; exact h
theorem mark_rot {x : En} {r : Rg} (o : OkC (x :: r)) (y : Int) : putM (mapC (x :: r)) x.1 (encM (x.2.2, false)) y = mapC (rot (x :: r)) y := by
  unfold putM mapC
  have o' := okC_rot o
  by_cases e : y = x.1
  · subst e
    rw [if_pos rfl, markO_of o' (m := (x.2.2, false)) (List.mem_append_right _ (by rw [List.mem_singleton]; rfl))]; rfl
  · rw [if_neg e, markO_congr o o' (g := y) (fun m' => ?_)]
    unfold rot decE
    rw [List.mem_cons, List.mem_append, List.mem_singleton]
    constructor
    · rintro (h | h)
      · rw [← h] at e; exact absurd rfl e
      · exact .inl h
    · rintro (h | h)
      · exact .inr h
      · cases h; exact absurd rfl e
theorem mark_told {x : En} {r : Rg} (o : OkC (x :: r)) (h : x.2 = (false, false)) (y : Int) : mapC (x :: r) y = mapC (rot (x :: r)) y := by
  rw [← mark_rot o y]
  unfold putM
  split
  · rename_i e
    subst e
    unfold mapC
    rw [markO_of o (m := x.2) List.mem_cons_self, h]; rfl
  · rfl
set_option maxHeartbeats 1000000 in
theorem touch_any (s : CK w base D b a n c g o L) {f : Int} (hf : kdI f) : Calls Try.prog 12 #[.pointer (some ⟨D, 0, none⟩), .int .i64 f] w fun e w' =>
    e = .returned (.int .i64 (touchC L f).1) ∧ CK w' base D b a n c g o (touchC L f).2 ∧ Tri w w' D b b := by
  cases hh : hasC L f with
  | false =>
    have e0 : touchC L f = (7, L) := by unfold touchC; rw [hh]; rfl
    rw [e0]; clear e0
    have HH := Lib.hid hh
    clear hh
    go_enter Try.func12, Try.ntmps12
    go_wp2_with (first
      | (go_at_call 25; refine (none_any s).mono ?_; rintro e w' ⟨rfl, rfl⟩)
      | (go_at_call 16; refine (has_any s hf).mono ?_; rintro e w1 ⟨rfl, b1⟩; rw [HH.out]))
    go_ret
    exact ⟨rfl, s.below b1, tri_below b1 _ _ _⟩
  | true =>
    obtain ⟨⟨p, q⟩, hm⟩ := hasC_true.1 hh
    have e0 : touchC L f = (0, L.map (touchE f)) := by unfold touchC; rw [hh]; rfl
    have E0 := Lib.hid e0
    have HH := Lib.hid hh
    have HM := Lib.hid hm
    clear e0 hh hm
    go_enter Try.func12, Try.ntmps12
    go_wp2_with (go_at_call 25; refine (none_any s).mono ?_; rintro e w' ⟨rfl, rfl⟩)
    refine (has_any s hf).mono ?_
    rintro e w1 ⟨rfl, b1⟩
    rw [HH.out]
    have s1 := s.below b1
    have r1 := s1.s1
    have hl := s1.look hf w1 rfl false
    rw [markO_of s.ok HM.out] at hl
    simp only [Option.map_some, Option.getD_some, encM, Bool.false_eq_true, if_false] at hl
    go_upto_region 7 with fail
    have bA := below_new w1 (.cells #[.bool p, .bool true] 55)
    have s2 := s1.below bA
    have m0 : (w1.alloc (.cells #[.bool p, .bool true] 55)).cell? ⟨w1.heap.size, 0, none⟩ = some (.bool p) := by rw [World.cell?_alloc_new]; rfl
    have m1 : (w1.alloc (.cells #[.bool p, .bool true] 55)).cell? ⟨w1.heap.size, 1, none⟩ = some (.bool true) := by rw [World.cell?_alloc_new]; rfl
    have m2 := s2.s1
    have tA := tri_trans (tri_below b1 D b b) (tri_below bA D b b) (.inl rfl)
    clear r1 hl bA
    generalize w1.alloc (.cells #[.bool p, .bool true] 55) = W at *
    generalize w1.heap.size = K at *
    go_still_tail 6, (by kernel_rfl)
    change wpList _ _ _ _ _ W.drew
    refine wpList_store_map W.drew (by rfl) (.tmp 24) (.tmp 25) (.tmp 26) 48 (by rfl) Try.underlying48 KI (M := mapC L) s2.map (by rfl) f hf (by rfl) (encM (p, true)) (by rfl) ?_
    intro W3 map3 o3d
    have o3 := only_trans (only_drew (only_refl W b)) o3d
    go_wp2
    go_ret
    rw [E0.out]
    have hx : (L.map (touchE f)).map Prod.fst = L.map Prod.fst := touch_fst L f
    exact ⟨rfl, ⟨rowIs_only s2.srow o3 s.neb.symm, by rw [hx]; exact s2.ring.only o3 (fun ha => (s.nebg ha).symm), map3.congr (mark_touch s.ok HM.out), s.mb, okC_touch s.ok f, s.gb⟩, tri_trans tA (tri_only o3 (.inr (.inr rfl))) (.inl rfl)⟩

theorem Moved.of {w w' : World} {a a2 : Option Addr} {g g' : Nat} (h : Moved w w' a2 g g') (ha : a ≠ none) : Moved w w' a g g' := by
  rcases h with ⟨_, h2, h3⟩ | h
  · exact .inl ⟨ha, h2, h3⟩
  · exact .inr h
/-- What a call of Next hands back. -/
def toldV (t : Option Int) : Value := match t with
  | some f => .tuple #[.int .i64 f, .bool true]
  | none => .tuple #[.int .i64 0, .bool false]
set_option maxHeartbeats 2000000 in
set_option maxRecDepth 100000 in
theorem next_any (s : CK w base D b a n c g o L) (hB : base ≤ w.heap.size) (hn : n ≤ 1000000) : Calls Try.prog 13 #[.pointer (some ⟨D, 0, none⟩)] w fun e w' =>
    e = .returned (toldV (nextC L).1) ∧ ∃ a' c' g' o', CK w' base D b a' n c' g' o' (nextC L).2 ∧ (g' = g ∨ w.heap.size ≤ g') ∧ Tri w w' D g b := by
  obtain ⟨i0, hi, hz0, hz1, hz2⟩ := info_parts info3
  have he3 : Try.prog.elem 23 = 3 := by kernel_rfl
  have heq := eq55
  go_enter Try.func13, Try.ntmps13
  go_wp2_with fail
  go_loopg [] (wt L) (fun k wr => ∃ L' a' c' g' o', nextC L' = nextC L ∧ wt L' = k ∧ CK wr base D b a' n c' g' o' L' ∧ (g' = g ∨ w.heap.size ≤ g') ∧ Tri w wr D g b)
  case atStart => exact ⟨L, a, c, g, o, rfl, rfl, s, .inl rfl, tri_refl _ _ _ _⟩
  case round =>
    clear s
    obtain ⟨L', a', c', g', o', hL, hk, s, hg, ht⟩ := hrel
    have HL := Lib.hid hL
    have HK := Lib.hid hk
    have HG := Lib.hid hg
    clear hL hk hg
    have hsz := ht.size
    cases L' with
    | nil =>
      have h0 : 0 = n := by have := s.len; simpa using this
      subst h0
      go_wp2_with (go_at_call 15; refine (len_any s).mono ?_; rintro e w' ⟨rfl, rfl⟩)
      go_ret2
      rw [← HL.out]
      exact ⟨rfl, a', c', g', o', s, HG.out, ht⟩
    | cons x r =>
      obtain ⟨m, rfl⟩ : ∃ m, n = m + 1 := ⟨n - 1, by have := s.len; simp at this; omega⟩
      obtain ⟨f, p, q⟩ := x
      have hlc := s.ring.le
      have hap := s.ring.pos (by omega)
      subst hap
      have r0 := s.s0
      have c0 := s.ring.cell 0 f rfl
      rw [Nat.add_zero] at c0
      obtain ⟨a2, o2, hsl, hr2⟩ := s.ring.tail Try.underlying23 he3 hi hz1
      have bA := below_new wr (.cells #[.int .i64 f] 3)
      have s2 := s.below bA
      have hA : (wr.alloc (.cells #[.int .i64 f] 3)).cell? ⟨wr.heap.size, 0, none⟩ = some (.int .i64 f) := by rw [World.cell?_alloc_new]; rfl
      have hB2 : base ≤ (wr.alloc (.cells #[.int .i64 f] 3)).heap.size := by simp; omega
      have hr3 := hr2.below bA
      have HA := Lib.hid hA
      have hkd : kdI f := s.map.kd KI (x := f) (v := encM (p, q)) (by unfold mapC; rw [markO_of s.ok (m := (p, q)) List.mem_cons_self]; rfl)
      clear hA hr2
      have hm6 : m ≤ 1000000 := by omega
      go_wp2_with (first
        | (go_at_call 15; refine (len_any s).mono ?_; rintro e w' ⟨rfl, rfl⟩)
        | (at_builtin; refine wpList_append_ring _ rfl (.tmp 20) (.tmp 22) 23 rfl Try.underlying23 hi hz0 hz1 hz2 rfl hr3 rfl rfl HA.out hm6 hB2 ?_))
      intro a3 c3 g3 o3 w3 hr ha hmv
      obtain ⟨t1, t2, t3, t4, t5, t6, t7, t8, t9⟩ := s2.reset hr ha (hmv.of (by simp))
      have m1 : (w3.setCell ⟨D, 0, none⟩ (.slice a3 (m + 1) c3)).cell? ⟨D, 1, none⟩ = some (.map (some b)) := t1.cell (i := 1) (by omega)
      have hlk := t3.look KI (t := 48) (e := 55) Try.underlying48 (z := encM (false, false)) zero55 hkd false
      have hlk2 : mapC ((f, p, q) :: r) f = some (encM (p, q)) := by unfold mapC; rw [markO_of s.ok (m := (p, q)) List.mem_cons_self]; rfl
      rw [hlk2] at hlk
      simp only [Option.getD_some, encM, encI, Bool.false_eq_true, if_false] at hlk
      clear hlk2 hr hmv r0 c0 hr3 hsl
      have hrf : (rot ((f, p, q) :: r)).map Prod.fst = (((f, p, q) :: r).map Prod.fst).tail ++ [f] := rot_fst _ _
      have hg3 : g3 = g ∨ w.heap.size ≤ g3 := by
        have h1 := HG.out
        rcases t5 with h | h
        · rw [h]; exact h1
        · simp at h; exact .inr (by omega)
      have HG3 := Lib.hid hg3
      have HRF := Lib.hid hrf
      have T4 := Lib.hid (tri_trans (tri_trans ht (tri_below bA D g b) (.inl rfl)) t4 HG.out)
      have bN := below_new (w3.setCell ⟨D, 0, none⟩ (.slice a3 (m + 1) c3)) (.cells #[.bool p, .bool q] 55)
      have HT7 := Lib.hid t7
      clear hg3 hrf t4 t5 t6 t7
      by_cases hpq : p = false ∧ q = false
      · obtain ⟨rfl, rfl⟩ := hpq
        go_wp2_with fail
        go_ret2
        rw [← HL.out, nextC_told r rfl]
        exact ⟨rfl, a3, c3, g3, o3, ⟨rowIs_below t1 bN, by rw [HRF.out]; exact t2.below bN, (t3.congr (mark_told s.ok rfl)).below bN, s.mb, okC_rot s.ok, fun h => absurd h ha⟩, HG3.out, tri_trans T4.out (tri_below bN D g b) (.inl rfl)⟩
      · have hqt : (!p && !q) = false := by cases p <;> cases q <;> simp_all
        have HNE := Lib.hid (fun h => hpq (by simpa using h) : ¬ (p, q) = (false, false))
        clear hpq
        go_upto_region 7 with fail
        have m2 := t1.lt
        have t1' := rowIs_below t1 bN
        have t3' := t3.below bN
        have t2' := t2.below bN
        have TN := Lib.hid (tri_trans T4.out (tri_below bN D g b) (.inl rfl))
        have x0 : ((w3.setCell ⟨D, 0, none⟩ (.slice a3 (m + 1) c3)).alloc (.cells #[.bool p, .bool q] 55)).cell? ⟨(w3.setCell ⟨D, 0, none⟩ (.slice a3 (m + 1) c3)).heap.size, 1, none⟩ = some (.bool q) := by rw [World.cell?_alloc_new]; rfl
        rw [show (w3.setCell ⟨D, 0, none⟩ (.slice a3 (m + 1) c3)).heap.size = w3.heap.size by simp [World.setCell]] at x0
        clear m1 m2 t1 t2 t3 bN hlk t8 t9
        generalize (w3.setCell ⟨D, 0, none⟩ (.slice a3 (m + 1) c3)).alloc (.cells #[.bool p, .bool q] 55) = W at *
        have m2 : W.cell? ⟨D, 1, none⟩ = some (.map (some b)) := t1'.cell (i := 1) (by omega)
        go_still_tail 8, (by kernel_rfl)
        change wpList _ _ _ _ _ W.drew
        refine wpList_store_map W.drew (by rfl) (.tmp 39) (.tmp 40) (.tmp 43) 48 (by rfl) Try.underlying48 KI (M := mapC ((f, p, q) :: r)) t3' (by rfl) f hkd (by rfl) (encM (q, false)) (by rfl) ?_
        intro W3 map3 o3d
        have o3' := only_trans (only_drew (only_refl W b)) o3d
        go_wp2_with fail
        go_roundg (wt (rot ((f, p, q) :: r)))
        case measure =>
          rw [← HK.out]
          exact wt_rot _ _ HNE.out
        case rel =>
          exact ⟨rot ((f, p, q) :: r), a3, c3, g3, o3, by rw [← nextC_turn r HNE.out]; exact HL.out, rfl, ⟨rowIs_only t1' o3' s.neb.symm, by rw [HRF.out]; exact t2'.only o3' (fun _ => HT7.out.symm), map3.congr (mark_rot s.ok), s.mb, okC_rot s.ok, fun h => absurd h ha⟩, HG3.out, tri_trans TN.out (tri_only o3' (.inr (.inr rfl))) (.inl rfl)⟩
end
end Go.Proofs.Ythgajdaiklfjhaa
