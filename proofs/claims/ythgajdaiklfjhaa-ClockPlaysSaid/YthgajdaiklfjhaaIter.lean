/-
  The walks of slices.Clone, maps.Clone, Copy, All and what it hands back, Active.
-/
import Derived.Test.YthgajdaiklfjhaaRem
import Derived.Test.YthgajdaiklfjhaaRFS
import Derived.Shelf.SlMaps.Clone
namespace Go.Proofs.Ythgajdaiklfjhaa
open Go.RowKit
attribute [local go_sem] Oper.semAt_some

theorem ne_nilS (b o n c : Nat) (W : World) : (binOp .eql 23 (.slice (some ⟨b, o, none⟩) n c) (.slice none 0 0)).run Try.prog W = .ok (.bool false) W := by kernel_rfl
theorem eq_nilS (W : World) : (binOp .eql 23 (.slice none 0 0) (.slice none 0 0)).run Try.prog W = .ok (.bool true) W := by kernel_rfl
theorem ring_of_own {w : World} {base e n c g : Nat} {a : Option Addr} {xs : List Int} (h : OwnAt w base e 1 a n c g (xs.map (Value.int .i64))) : RingAt w base e a n c g 0 xs := by
  have hl : xs.length = n := by have := h.own.1; simpa using this
  refine ⟨hl, by have := h.le; unfold maxLen at this; exact this, fun ad e => (h.blk ad e).1, fun e => ?_, fun ha => ?_, fun j x hx => ?_⟩
  · subst e
    rcases h.own.2 with ⟨h1, h2⟩ | ⟨g', cap, cur, h1, _⟩
    · cases h1; rfl
    · cases h1
  · rcases h.own.2 with ⟨h1, h2⟩ | ⟨g', cap, cur, h1, hb, hg, hc, hm, hs, _⟩
    · cases h1; exact absurd rfl ha
    · cases h1
      have e1 := (h.blk _ rfl).1
      cases e1
      exact ⟨cur, hg, hb, by omega⟩
  · rw [Nat.zero_add]
    exact h.cell (by rw [List.getElem?_map, hx]; rfl)
theorem RingAt.rd {w : World} {base e n c g o : Nat} {a : Option Addr} {xs : List Int} (h : RingAt w base e a n c g o xs) : Rd w 1 a n (xs.map (Value.int .i64)) :=
  ⟨by rw [List.length_map, h.len, Nat.mul_one], fun h0 => by
    have ha := h.pos (by have := h.le; omega)
    exact ⟨g, o, ha, (h.lt (by rw [ha]; simp)).2, fun j u hu => by
      rw [List.getElem?_map, Option.map_eq_some_iff] at hu
      obtain ⟨x, hx, rfl⟩ := hu
      exact h.cell j x hx⟩⟩
section
variable {w w' : World} {base D b n c g o : Nat} {a : Option Addr} {L : Rg} {xs : List Int}
set_option maxHeartbeats 1000000 in
theorem clone_any (h : RingAt w base 3 a n c g o xs) (hn : n ≤ 1000000) : Calls Try.prog 29 #[.slice a n c] w fun e w' =>
    ∃ a' c' g' o', e = .returned (.slice a' n c') ∧ RingAt w' w.heap.size 3 a' n c' g' o' xs ∧ (a' = none ↔ a = none) ∧ Below w.heap.size w w' := by
  have hl := h.le
  cases a with
  | none =>
    obtain rfl := h.non rfl
    obtain rfl : n = 0 := by omega
    have hq := eq_nilS
    have HR := Lib.hid (h.baseLe (b0 := base) (Nat.le_refl _))
    have hx : xs = [] := List.eq_nil_of_length_eq_zero h.len
    subst hx
    clear h
    go_enter Try.func29, Try.ntmps29
    go_wp2
    go_ret
    exact ⟨none, 0, 0, 0, rfl, RingAt.nil _ _ _ _ _, by simp, Below.refl _ _⟩
  | some ad =>
    obtain rfl := h.at_ ad rfl
    obtain ⟨i0, hi, hz0, hz1, hz2⟩ := info_parts info3
    have hnil := ne_nilS g o n c
    have hE : (w.alloc (.cells #[] 3)).ownsRow w.heap.size 3 1 (.slice (some ⟨w.heap.size, 0, none⟩) 0 0) 0 [] := own_empty w 3 1 (Nat.le_refl _)
    have hR : Rd (w.alloc (.cells #[] 3)) 1 (some ⟨g, o, none⟩) n (xs.map (Value.int .i64)) := h.rd.below (below_new _ _)
    have fin : ∀ (v : Value) (w1 : World), w1.ownsRow w.heap.size 3 1 v n (xs.map (Value.int .i64)) → (w.alloc (.cells #[] 3)).grownBy w1 (some w.heap.size) → (¬ v = .slice none 0 0) →
        ∃ a' c' g' o', Ending.returned v = .returned (.slice a' n c') ∧ RingAt w1 w.heap.size 3 a' n c' g' o' xs ∧ (a' = none ↔ some (⟨g, o, none⟩ : Addr) = none) ∧ Below w.heap.size w w1 := by
      intro v w1 ho hg hv
      obtain ⟨a', c', g', rfl, oa⟩ := own_at ho
      have hr := ring_of_own oa
      refine ⟨a', c', g', 0, rfl, hr, ?_, (below_new w _).grown hg (by simp) (fun k hk => by cases hk; exact Nat.le_refl _)⟩
      constructor
      · intro e
        subst e
        have h1 := hr.non rfl
        have h2 := hr.le
        obtain rfl : n = 0 := by omega
        subst h1
        exact absurd rfl hv
      · intro e; cases e
    have FIN := Lib.hid fin; clear fin
    have HE := Lib.hid hE; clear hE
    have HR := Lib.hid hR; clear hR
    clear h
    go_enter Try.func29, Try.ntmps29
    go_wp2_with (at_builtin; refine wpList_append_rd _ rfl (.tmp 5) (.tmp 6) 23 rfl w.heap.size 3 i0 _ 1 8 Try.underlying23 hi hz0 hz1 hz2 rfl (by decide) (.slice (some ⟨w.heap.size, 0, none⟩) 0 0) 0 [] rfl HE.out (some ⟨g, o, none⟩) n c (xs.map (Value.int .i64)) rfl HR.out (by intro u hu; obtain ⟨x, _, rfl⟩ := List.mem_map.1 hu; rfl) (by unfold maxLen; omega) (by omega) (by simp) ?_)
    intro v1 w1 hown hgrow hat hv
    have F := Lib.hid (FIN.out v1 w1 hown hgrow hv)
    clear hown hgrow hat hv hnil
    go_wp2
    go_ret
    exact F.out
set_option maxHeartbeats 1000000 in
theorem mclone_any {M : Int → Option Value} (h : MapAt encI kdI w b M) : Calls Try.prog 30 #[.map (some b)] w fun e w' =>
    ∃ b', e = .returned (.map (some b')) ∧ MapAt encI kdI w' b' M ∧ w.heap.size ≤ b' ∧ Below w.heap.size w w' := by
  obtain ⟨es, clock, hb, hr⟩ := h
  have hq := map_neq b
  go_enter Try.func30, Try.ntmps30
  go_wp2
  rw [run_callFunc_extern Try.func33 (by kernel_rfl) (by kernel_rfl) (by kernel_rfl) (e := Extern.MapsClone.clone) (by kernel_rfl), run_maps_clone_sl w 48 hb]
  simp only [Result.andThen]
  rw [Oper.upon_value]
  go_wp2
  rw [run_typeAssert_map_sl _ 48 20 _ _ _ Try.underlying48]
  simp only [Result.andThen]
  rw [Oper.upon_value]
  go_wp2
  go_ret
  exact ⟨_, rfl, ⟨es, clock, (MapKept.heap_alloc w _).1, hr⟩, Nat.le_refl _, below_new _ _⟩
set_option maxHeartbeats 1000000 in
theorem copy_any (s : CK w base D b a n c g o L) (hn : n ≤ 1000000) : Calls Try.prog 19 #[.pointer (some ⟨D, 0, none⟩)] w fun e w' =>
    ∃ D' b' a' c' g' o', e = .returned (.pointer (some ⟨D', 0, none⟩)) ∧ w.heap.size ≤ D' ∧ CK w' w.heap.size D' b' a' n c' g' o' L ∧ Below w.heap.size w w' := by
  have s0 := s.s0
  have s1 := s.s1
  have sd := s.below (Below.refl w.heap.size w).drew
  go_enter Try.func19, Try.ntmps19
  go_wp2_with (go_at_call 25; refine (none_any s).mono ?_; rintro e w' ⟨rfl, rfl⟩)
  go_region_held3 (fun w' => w'.cell? ⟨D, 0, none⟩ = some (.slice a n c) ∧ w'.cell? ⟨D, 1, none⟩ = some (.map (some b)))
    (first | exact ⟨t1.s0, t1.s1⟩ | exact ⟨t2.s0, t2.s1⟩ | go_keep)
    (first
      | (go_at_call 29; refine (clone_any sd.ring hn).mono ?_; rintro e w1 ⟨a', c', g', o', rfl, o1, han, b1⟩; have t1 := sd.below b1)
      | (go_at_call 30; refine (mclone_any t1.map).mono ?_; rintro e w2 ⟨b', rfl, m2, hb', b2⟩; have t2 := t1.below b2))
  go_wp2_with fail
  go_ret
  have h := World.rowIs_alloc w2 #[.slice a' n c', .map (some b')] 50 (topC a' n c' b') (fun i hi => by
      rcases (show i = 0 ∨ i = 1 by simp at hi; omega) with rfl | rfl <;> rfl)
  have bA := below_new w2 (.cells #[.slice a' n c', .map (some b')] 50)
  have b12 : Below w.heap.size w w2 := below_then (below_then (Below.refl w.heap.size w).drew b1) b2
  have h1 := b1.size
  have hd : w.drew.heap.size = w.heap.size := rfl
  have hr := (o1.below b2).below bA
  by_cases ha : a' = none
  · subst ha
    have hr0 : RingAt (w2.alloc (.cells #[.slice none n c', .map (some b')] 50)) w.heap.size 3 none n c' b' 0 (L.map Prod.fst) := by
      have hc := hr.non rfl
      have hl := hr.le
      have hx : L.map Prod.fst = [] := List.eq_nil_of_length_eq_zero (by rw [hr.len]; omega)
      obtain rfl : n = 0 := by omega
      subst hc
      rw [hx]
      exact RingAt.nil _ _ _ _ _
    exact ⟨_, _, _, _, _, _, rfl, b12.size, ⟨h, hr0, m2.below bA, by omega, s.ok, fun _ => rfl⟩, below_then b12 bA⟩
  · exact ⟨_, _, _, _, _, _, rfl, b12.size, ⟨h, hr, m2.below bA, by omega, s.ok, fun e => absurd e ha⟩, below_then b12 bA⟩
theorem all_any (v : Option Addr) (w : World) : Calls Try.prog 17 #[.pointer v] w fun e w' =>
    e = .returned (.func (.func 28) #[] #[.pointer (some ⟨w.heap.size, 0, none⟩)]) ∧ w' = w.alloc (.cells #[.pointer v] 25) := by
  go_enter Try.func17, Try.ntmps17
  go_wp2
  go_ret
  exact ⟨rfl, rfl⟩

theorem take_snoc' {α : Type} {xs : List α} {m : Nat} {x : α} (h : xs[m]? = some x) : xs.take (m + 1) = xs.take m ++ [x] := by
  rw [List.take_add_one, h]; rfl
set_option maxRecDepth 100000 in
set_option maxHeartbeats 2000000 in
theorem tells_all (s : CK w base D b a n c g o L) (hn : n ≤ 1000000) {X : Nat} (hX : Boxed w X 25 (.pointer (some ⟨D, 0, none⟩))) {B : Nat} {Mod : Nat → Prop} (hah : Ahead w B Mod)
    {α : Type} (val : α → Int) {Ls : List α} (hv : Ls.map val = L.map Prod.fst) : TellsS Try.prog 28 #[.pointer (some ⟨X, 0, none⟩)] (fun x : α => #[.int .i64 (val x)]) (SafeB B Mod) Ls w := by
  intro l J Jx W hW hJ hJx hYd h0
  have s' := s.below hW
  have hX' := boxed_below hX hW
  have hx := hX'.cell
  have s0 := s'.s0
  have hJb : ∀ W W' : World, Below W.heap.size W W' → ∀ p, J p W → J p W' := fun W W' k p hp => hJ p W W' none hp ⟨k.os, k.tape, k.output, k.size, fun i hi _ => k.block i hi⟩ (fun r e => by cases e)
  have HJB := Lib.hid hJb
  have HAH := Lib.hid hah
  have hxl : Ls.length = n := by rw [← s.ring.len, ← hv, List.length_map]
  have HXL := Lib.hid hxl
  have HWS := Lib.hid hW
  have HV := Lib.hid hv
  clear s hX hJb hah hxl hv
  refine callsIn_of_wp Try.func28 rfl trivial ?_ rfl
  simp only [Try.ntmps28, List.size_toArray, List.length_cons, List.length_nil, Nat.reduceAdd, Nat.reduceSub, Array.replicate_succ, Array.replicate_zero, List.push_toArray, List.append_toArray, List.nil_append, List.cons_append]
  gi_wp2
  refine ⟨trivial, ?_⟩
  refine (callsIn_wide.2 (none_any s')).mono ?_
  rintro e w' ⟨rfl, rfl⟩
  gi_wp2
  refine ⟨trivial, ?_⟩
  refine (callsIn_wide.2 (clone_any s'.ring hn)).mono ?_
  rintro e W1 ⟨a', c', g', o', rfl, r1, -, b1⟩
  have hJ1 := HJB.out W W1 b1 _ h0
  have hl1 := r1.le
  have hsafe : 0 < n → SafeB B Mod W1 g' := fun h => by
    have ha := r1.pos (by omega)
    obtain ⟨cs, h1, h2, _⟩ := r1.blk (by rw [ha]; simp)
    exact safe_fresh HAH.out (below_then HWS.out b1) (by have := HWS.out.size; omega) ⟨_, _, _, h1⟩
  have HSF := Lib.hid hsafe
  have HYD := Lib.hid hYd
  clear hsafe hYd hx s0 h0
  gi_wp2
  gi_loopw [13] (fun i wr => ∃ m : Nat, m ≤ n ∧ i = .int .i64 m ∧ J (Ls.take m) wr ∧ (0 < n → wr.heap[g']? = W1.heap[g']? ∧ SafeB B Mod wr g')) (fun i _ => n - (intOf i).toNat)
  case atStart => exact ⟨0, Nat.zero_le _, rfl, hJ1, fun h => ⟨rfl, HSF.out h⟩⟩
  case round =>
    obtain ⟨m, hm, rfl, hJs, hkp⟩ := hrel
    have HKP := Lib.hid hkp
    clear hkp hJ1
    by_cases hlt : m < n
    · obtain ⟨xv, hxv, hc⟩ := r1.get hlt
      rw [← HV.out, List.getElem?_map, Option.map_eq_some_iff] at hxv
      obtain ⟨x, hx, rfl⟩ := hxv
      have ha := r1.pos (by omega)
      subst ha
      have hc1 : wr.cell? ⟨g', o' + m, none⟩ = some (.int .i64 (val x)) := (World.cell?_of_block (a := ⟨g', o' + m, none⟩) (HKP.out (by omega)).1).trans hc
      obtain ⟨fn, tmps, assign, body, hy, hR⟩ := HYD.out _ x _ hJs (by rw [HXL.out, List.length_take, HXL.out]; omega)
      have HX := Lib.hid (take_snoc' hx)
      have HPR := Lib.hid (List.take_prefix (m + 1) Ls)
      clear hx hc
      gi_wp2
      refine hR.mono ?_
      rintro e W3 (⟨rfl, hJ3, hk3⟩ | ⟨rfl, hJx3⟩)
      · gi_wp2
        go_roundw
        case rel => exact ⟨m + 1, by omega, by go_num, by rw [HX.out]; exact hJ3, fun h => by
          obtain ⟨h1, h2⟩ := HKP.out h
          obtain ⟨h3, h4⟩ := hk3 g' h2
          exact ⟨h3.trans h1, h4⟩⟩
        case measure => simp [intOf]; omega
      · gi_wp2
        refine bodyPost_ret (results_none rfl _ _ _) rfl ?_
        exact ⟨⟨_, rfl⟩, .inr ⟨_, by rw [← HX.out]; exact HPR.out, hJx3⟩⟩
    · have hmn : m = n := by omega
      have HE := Lib.hid (show Ls.take m = Ls by rw [List.take_of_length_le (by rw [HXL.out]; omega)])
      subst hmn
      gi_wp2
      go_end0
      exact ⟨⟨_, rfl⟩, .inl ⟨_, rfl, by rw [← HE.out]; exact hJs⟩⟩
end
end Go.Proofs.Ythgajdaiklfjhaa
