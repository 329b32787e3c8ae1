/-
  The walks of slices.Clone, Copy, All and of what it hands back.
-/
import Derived.Test.YtcjlcbnjkkglbaaDoorLeast
import Derived.Test.YtcjlcbnjkkglbaaDoorRFS
import Derived.Deep.RegionHeld3
namespace Go.Proofs.YtcjlcbnjkkglbaaDoor
open Go.RowKit
attribute [local go_sem] Oper.semAt_some

theorem ne_nilS (b o n c : Nat) (W : World) : (binOp .eql 44 (.slice (some ⟨b, o, none⟩) n c) (.slice none 0 0)).run Tryd.prog W = .ok (.bool false) W := by kernel_rfl
theorem eq_nilS (W : World) : (binOp .eql 44 (.slice none 0 0) (.slice none 0 0)).run Tryd.prog W = .ok (.bool true) W := by kernel_rfl
theorem wordsL_one (K : Nat) (Wd : Nat → Nat) : ∀ u ∈ wordsL K Wd, u.oneCell' = true := by
  intro u hu
  unfold wordsL at hu
  obtain ⟨x, _, rfl⟩ := List.mem_map.1 hu
  rfl
theorem OwnAt.non {w : World} {base e size n c g : Nat} {xs : List Value} (h : OwnAt w base e size none n c g xs) : n = 0 ∧ c = 0 := by
  rcases h.own.2 with ⟨h1, h2⟩ | ⟨_, _, _, h1, _⟩
  · cases h1; exact ⟨h2, rfl⟩
  · cases h1
section
variable {w w' : World} {base D b n c N : Nat} {a : Option Addr} {Wd : Nat → Nat}
set_option maxHeartbeats 1000000 in
theorem clone_any (h : OwnAt w base 51 1 a n c b (wordsL n Wd)) (hn : n ≤ 1000000) : Calls Tryd.prog 29 #[.slice a n c] w fun e w' =>
    ∃ a' c' b', e = .returned (.slice a' n c') ∧ OwnAt w' w.heap.size 51 1 a' n c' b' (wordsL n Wd) ∧ (a' = none ↔ a = none) ∧ Below w.heap.size w w' := by
  have hl := h.le
  cases a with
  | none =>
    obtain ⟨rfl, rfl⟩ := h.non
    have hq := eq_nilS
    clear h
    go_enter Tryd.func29, Tryd.ntmps29
    go_wp2
    go_ret
    exact ⟨none, 0, 0, rfl, ⟨World.ownsRow_nil _ _ _ _, fun h => absurd h (Nat.lt_irrefl _), fun b hb => by cases hb⟩, by simp, Below.refl _ _⟩
  | some ad =>
    obtain ⟨rfl, _⟩ := h.blk ad rfl
    obtain ⟨i0, hi, hz0, hz1, hz2⟩ := info_parts info51
    have hnil := ne_nilS b 0 n c
    have hE : (w.alloc (.cells #[] 51)).ownsRow w.heap.size 51 1 (.slice (some ⟨w.heap.size, 0, none⟩) 0 0) 0 [] := own_empty w 51 1 (Nat.le_refl _)
    have hR : Rd (w.alloc (.cells #[] 51)) 1 (some ⟨b, 0, none⟩) n (wordsL n Wd) := h.rd.below (below_new _ _)
    have fin : ∀ (v : Value) (w1 : World), w1.ownsRow w.heap.size 51 1 v n (wordsL n Wd) → (w.alloc (.cells #[] 51)).grownBy w1 (some w.heap.size) → (¬ v = .slice none 0 0) →
        ∃ a' c' b', Ending.returned v = .returned (.slice a' n c') ∧ OwnAt w1 w.heap.size 51 1 a' n c' b' (wordsL n Wd) ∧ (a' = none ↔ some (⟨b, 0, none⟩ : Addr) = none) ∧ Below w.heap.size w w1 := by
      intro v w1 ho hg hv
      obtain ⟨a', c', g', rfl, oa⟩ := own_at ho
      refine ⟨a', c', g', rfl, oa, ?_, (below_new w _).grown hg (by simp) (fun k hk => by cases hk; exact Nat.le_refl _)⟩
      constructor
      · intro e
        subst e
        obtain ⟨rfl, rfl⟩ := oa.non
        exact absurd rfl hv
      · intro e; cases e
    have FIN := Lib.hid fin; clear fin
    have HE := Lib.hid hE; clear hE
    have HR := Lib.hid hR; clear hR
    have HO := Lib.hid (wordsL_one n Wd)
    unfold maxLen at hl
    clear h
    go_enter Tryd.func29, Tryd.ntmps29
    go_wp2_with (at_builtin; refine wpList_append_rd _ rfl (.tmp 5) (.tmp 6) 44 rfl w.heap.size 51 i0 _ 1 8 Tryd.underlying44 hi hz0 hz1 hz2 rfl (by decide) (.slice (some ⟨w.heap.size, 0, none⟩) 0 0) 0 [] rfl HE.out (some ⟨b, 0, none⟩) n c (wordsL n Wd) rfl HR.out HO.out (by unfold maxLen; omega) (by omega) (by simp) ?_)
    intro v1 w1 hown hgrow hat hv
    have F := Lib.hid (FIN.out v1 w1 hown hgrow hv)
    clear hown hgrow hat hv hnil
    go_wp2
    go_ret
    exact F.out
theorem BS.base' (s : BS w base D a c b N Wd) : wordsOf N ≤ 1024 := by have := s.le; unfold wordsOf; omega
set_option maxHeartbeats 1000000 in
theorem copy_any (s : BS w base D a c b N Wd) : Calls Tryd.prog 20 #[.pointer (some ⟨D, 0, none⟩)] w fun e w' =>
    ∃ D' a' c' b', e = .returned (.pointer (some ⟨D', 0, none⟩)) ∧ w.heap.size ≤ D' ∧ BS w' w.heap.size D' a' c' b' N Wd ∧ (a' = none ↔ a = none) ∧ Below w.heap.size w w' := by
  have s0 := s.s0
  have s1 := s.s1
  have hK := s.base'
  have sd := s.below (Below.refl w.heap.size w).drew
  go_enter Tryd.func20, Tryd.ntmps20
  go_wp2_with fail
  go_region_held3 (fun w' => w'.cell? ⟨D, 0, none⟩ = some (.slice a (wordsOf N) c) ∧ w'.cell? ⟨D, 1, none⟩ = some (.int .i64 N))
    (first | exact ⟨t1.s0, t1.s1⟩ | go_keep)
    (first
      | (go_at_call 29; refine (clone_any sd.own (by omega)).mono ?_; rintro e w1 ⟨a', c', b', rfl, o1, ha, b1⟩; have t1 := sd.below b1))
  go_wp2_with fail
  go_ret
  have h := World.rowIs_alloc w1 #[.slice a' (wordsOf N) c', .int .i64 N] 46 (setF a' (wordsOf N) c' N) (fun i hi => by
      rcases (show i = 0 ∨ i = 1 by simp at hi; omega) with rfl | rfl <;> rfl)
  have bA := below_new w1 (.cells #[.slice a' (wordsOf N) c', .int .i64 N] 46)
  have b12 : Below w.heap.size w w1 := below_then (Below.refl w.heap.size w).drew b1
  exact ⟨_, _, _, _, rfl, b12.size, ⟨h, o1.below bA, s.le, s.sm⟩, ha, below_then b12 bA⟩
theorem all_any (v : Option Addr) (w : World) : Calls Tryd.prog 23 #[.pointer v] w fun e w' =>
    e = .returned (.func (.func 31) #[] #[.pointer (some ⟨w.heap.size, 0, none⟩)]) ∧ w' = w.alloc (.cells #[.pointer v] 24) := by
  go_enter Tryd.func23, Tryd.ntmps23
  go_wp2
  go_ret
  exact ⟨rfl, rfl⟩
theorem BS.of_blocks (s : BS w base D a c b N Wd) (h1 : w'.heap[D]? = w.heap[D]?) (h2 : a ≠ none → w'.heap[b]? = w.heap[b]?) : BS w' base D a c b N Wd := by
  refine ⟨s.srow.of_block h1, ⟨⟨s.own.own.1, ?_⟩, s.own.at_, fun ad had => ?_⟩, s.le, s.sm⟩
  · rcases s.own.own.2 with h | ⟨g', cap, cur, h1', hb', hg, r⟩
    · exact .inl h
    · cases h1'
      have e := (s.own.blk _ rfl).1
      cases e
      exact .inr ⟨_, _, cur, rfl, hb', (h2 (by simp)).trans hg, r⟩
  · obtain ⟨e1, e2, e3⟩ := s.own.blk ad had
    refine ⟨e1, e2, ?_⟩
    have e4 := h2 (by rw [had]; simp)
    rw [Array.getElem?_eq_getElem e3] at e4
    exact (Array.getElem?_eq_some_iff.1 e4).1
theorem BS.cellsD (s : BS w base D a c b N Wd) : ∃ c t f, w.heap[D]? = some (.cells c t f) := by
  obtain ⟨c, hc, _⟩ := s.srow
  exact ⟨_, _, _, hc⟩
theorem BS.cellsb (s : BS w base D a c b N Wd) (ha : a ≠ none) : base ≤ b ∧ ∃ c t f, w.heap[b]? = some (.cells c t f) := by
  rcases s.own.own.2 with ⟨h1, _⟩ | ⟨g', cap, cur, h1, hb', hg, r⟩
  · injection h1 with h1 _ _; exact absurd h1 ha
  · injection h1 with h1 _ _
    obtain ⟨e, e2, _⟩ := s.own.blk _ h1
    cases e
    exact ⟨e2, _, _, _, hg⟩
end
/-- How much is left of the iterator's loop. -/
def msrB (N : Nat) (i ok : Value) : Nat := match ok with | .bool true => N + 1 - (intOf i).toNat | _ => 0
theorem atI_none : atI none = 0 := rfl
theorem atI_some (i : Nat) : atI (some i) = (i : Int) := rfl
/-- The numbers of the set below m. -/
def preB (Wd : Nat → Nat) (m : Nat) : List Nat := (List.range m).filter (bitW Wd)
theorem preB_succ (Wd : Nat → Nat) (m : Nat) : preB Wd (m + 1) = preB Wd m ++ if bitW Wd m then [m] else [] := by
  unfold preB
  rw [List.range_succ, List.filter_append, List.filter_cons, List.filter_nil]
theorem preB_skip {Wd : Nat → Nat} {m : Nat} : ∀ {i : Nat}, m ≤ i → (∀ j, m ≤ j → j < i → bitW Wd j = false) → preB Wd i = preB Wd m
  | 0, h, _ => by rw [show m = 0 by omega]
  | i + 1, h, hn => by
    by_cases e : m = i + 1
    · rw [e]
    · rw [preB_succ, hn i (by omega) (by omega), preB_skip (i := i) (by omega) (fun j h1 h2 => hn j h1 (by omega))]
      simp
theorem preB_next {Wd : Nat → Nat} {m N i : Nat} (h : NextS Wd m N (some i)) : preB Wd (i + 1) = preB Wd m ++ [i] := by
  obtain ⟨h1, h2, h3, h4⟩ := h.some i rfl
  rw [preB_succ, preB_skip h1 (fun j a b => by simpa using h4 j a b)]
  have : bitW Wd i = true := by simpa using h3
  rw [this]; rfl
theorem preB_last {Wd : Nat → Nat} {m N : Nat} (h : NextS Wd m N none) (hm : m ≤ N) : preB Wd N = preB Wd m := preB_skip hm (fun j a b => by simpa using h.none rfl j a b)
theorem preB_pre {Wd : Nat → Nat} {m : Nat} : ∀ {N : Nat}, m ≤ N → preB Wd m <+: preB Wd N
  | 0, h => by rw [show m = 0 by omega]; exact List.prefix_rfl
  | N + 1, h => by
    by_cases e : m = N + 1
    · rw [e]; exact List.prefix_rfl
    · rw [preB_succ]
      exact (preB_pre (N := N) (by omega)).trans (List.prefix_append _ _)
theorem preB_len (Wd : Nat → Nat) (m : Nat) : (preB Wd m).length ≤ m := by
  have := List.length_filter_le (bitW Wd) (List.range m)
  simpa [preB] using this
section
variable {w w' : World} {base D b n c N : Nat} {a : Option Addr} {Wd : Nat → Nat}
set_option maxRecDepth 100000 in
set_option maxHeartbeats 2000000 in
theorem tells_all (s : BS w base D a c b N Wd) (hT : TabW w) {X : Nat} (hX : Boxed w X 24 (.pointer (some ⟨D, 0, none⟩))) {B : Nat} {Mod : Nat → Prop} (hah : Ahead w B Mod) (hs0 : SafeB B Mod w 0) :
    TellsS Tryd.prog 31 #[.pointer (some ⟨X, 0, none⟩)] (fun x : Nat => #[.int .i64 (x : Int)]) (SafeB B Mod) (preB Wd N) w := by
  intro l J Jx W hW hJ hJx hYd h0
  have s' := s.below hW
  have hX' := boxed_below hX hW
  have hx := hX'.cell
  have hle := s.le
  have hJb : ∀ W W' : World, Below W.heap.size W W' → ∀ p, J p W → J p W' := fun W W' k p hp => hJ p W W' none hp ⟨k.os, k.tape, k.output, k.size, fun i hi _ => k.block i hi⟩ (fun r e => by cases e)
  have HJB := Lib.hid hJb
  have HAH := Lib.hid hah
  have HWS := Lib.hid hW
  have hw0 : 0 < w.heap.size := by have := hah.box; omega
  have HTB := Lib.hid (hT.below hW hw0)
  have HS0 := Lib.hid hs0
  clear s hX hJb hah hT hs0
  refine callsIn_of_wp Tryd.func31 rfl trivial ?_ rfl
  simp only [Tryd.ntmps31, List.size_toArray, List.length_cons, List.length_nil, Nat.reduceAdd, Nat.reduceSub, Array.replicate_succ, Array.replicate_zero, List.push_toArray, List.append_toArray, List.nil_append, List.cons_append]
  gi_wp2
  refine ⟨trivial, ?_⟩
  refine (callsIn_wide.2 (copy_any s')).mono ?_
  rintro e W1 ⟨D', a', c', b', rfl, hD', t1, -, b1⟩
  have hJ1 := HJB.out W W1 b1 _ h0
  have bw1 := below_then HWS.out b1
  have hwW := HWS.out.size
  have hk0 := kpS_below (B := B) (Mod := Mod) bw1 HAH.out.box 0 HS0.out
  have hkD : SafeB B Mod W1 D' := safe_fresh HAH.out bw1 (by omega) t1.cellsD
  have hkb : a' ≠ none → SafeB B Mod W1 b' := fun ha => by
    obtain ⟨h1, h2⟩ := t1.cellsb ha
    exact safe_fresh HAH.out bw1 (by omega) h2
  have HT1 := Lib.hid (HTB.out.below b1 (by omega))
  have HKP0 := Lib.hid (And.intro hkD (And.intro hkb hk0.2))
  have HYD := Lib.hid hYd
  have HT := Lib.hid t1
  clear hk0 hkD hkb hYd hx h0 bw1
  gi_wp2
  refine ⟨trivial, ?_⟩
  refine (callsIn_wide.2 (next_any t1 HT1.out 0 (by omega))).mono ?_
  rintro e W2 ⟨r0, hr0, rfl, rfl⟩
  rw [told_eq]
  obtain ⟨x0, hx0⟩ : ∃ x, atI r0 = x := ⟨_, rfl⟩
  obtain ⟨ok0, hok0⟩ : ∃ ok, r0.isSome = ok := ⟨_, rfl⟩
  rw [hx0, hok0]
  have HR0 := Lib.hid (And.intro hr0 (And.intro hx0 hok0))
  clear hr0 t1 hx0 hok0
  gi_wp2
  gi_loopw [4, 5] (fun i ok wr => ∃ (m : Nat) (r : Option Nat), m ≤ N ∧ NextS Wd m N r ∧ i = .int .i64 (atI r) ∧ ok = .bool r.isSome ∧ J (preB Wd m) wr ∧ wr.heap[D']? = W1.heap[D']? ∧ (a' ≠ none → wr.heap[b']? = W1.heap[b']?) ∧ wr.heap[0]? = W1.heap[0]? ∧ SafeB B Mod wr D' ∧ (a' ≠ none → SafeB B Mod wr b') ∧ SafeB B Mod wr 0) (fun i ok _ => msrB N i ok)
  case atStart => exact ⟨0, r0, Nat.zero_le _, HR0.out.1, by rw [HR0.out.2.1], by rw [HR0.out.2.2], hJ1, rfl, fun _ => rfl, rfl, HKP0.out.1, HKP0.out.2.1, HKP0.out.2.2⟩
  case round =>
    obtain ⟨m, r, hm, hr, rfl, rfl, hJs, hk1, hk2, hk3, hk4, hk5, hk6⟩ := hrel
    have HKR := Lib.hid (And.intro hk1 (And.intro hk2 (And.intro hk3 (And.intro hk4 (And.intro hk5 hk6)))))
    have HR := Lib.hid hr
    clear hk1 hk2 hk3 hk4 hk5 hk6 hr hJ1
    cases r with
    | none =>
      have HE := Lib.hid (preB_last HR.out hm)
      rw [atI_none, Option.isSome_none]
      gi_wp2
      refine ⟨fun _ h => (by cases h), ?_⟩
      gi_wp2
      go_end0
      exact ⟨⟨_, rfl⟩, .inl ⟨_, rfl, by rw [HE.out]; exact hJs⟩⟩
    | some i =>
      have hi := HR.out.some i rfl
      have HE := Lib.hid (preB_next HR.out)
      have HPR := Lib.hid (preB_pre (Wd := Wd) (m := i + 1) (N := N) hi.2.1)
      have hlen : (preB Wd m).length < (preB Wd N).length := by
        have := HPR.out.length_le
        rw [HE.out, List.length_append] at this
        simp at this
        omega
      obtain ⟨fn, tmps, assign, body, hy, hR⟩ := HYD.out _ i _ hJs hlen
      have hi2 : i < N := hi.2.1
      have hi1 : m ≤ i := hi.1
      clear hi hlen
      rw [atI_some, Option.isSome_some]
      gi_wp2
      refine hR.mono ?_
      rintro e W3 (⟨rfl, hJ3, hk3⟩ | ⟨rfl, hJx3⟩)
      · have e1 := hk3 D' HKR.out.2.2.2.1
        have e2 := fun ha => hk3 b' (HKR.out.2.2.2.2.1 ha)
        have e3 := hk3 0 HKR.out.2.2.2.2.2
        have t3 := HT.out.of_blocks (e1.1.trans HKR.out.1) (fun ha => (e2 ha).1.trans (HKR.out.2.1 ha))
        have hT3 : TabW W3 := fun j hj => (World.cell?_of_block (a := ⟨0, j, none⟩) (e3.1.trans HKR.out.2.2.1)).trans (HT1.out j hj)
        have HK3 := Lib.hid (And.intro (e1.1.trans HKR.out.1) (And.intro (fun ha => (e2 ha).1.trans (HKR.out.2.1 ha)) (And.intro (e3.1.trans HKR.out.2.2.1) (And.intro e1.2 (And.intro (fun ha => (e2 ha).2) e3.2)))))
        clear e1 e2 e3 hk3
        gi_wp2
        refine ⟨trivial, ?_⟩
        refine (callsIn_wide.2 (next_any t3 hT3 ((i : Int) + 1) (by omega))).mono ?_
        rintro e W4 ⟨r4, hr4, rfl, rfl⟩
        rw [told_eq]
        have HR4 := Lib.hid (show NextS Wd (i + 1) N r4 by have := hr4; rwa [show ((i : Int) + 1).toNat = i + 1 by omega] at this)
        clear hr4 t3
        gi_wp2
        go_roundw
        case rel => exact ⟨i + 1, r4, hi2, HR4.out, rfl, rfl, by rw [HE.out]; exact hJ3, HK3.out.1, HK3.out.2.1, HK3.out.2.2.1, HK3.out.2.2.2.1, HK3.out.2.2.2.2.1, HK3.out.2.2.2.2.2⟩
        case measure =>
          cases r4 with
          | none => simp [msrB, intOf]; omega
          | some z =>
            have := (HR4.out.some z rfl).1
            have := (HR4.out.some z rfl).2.1
            simp [msrB, intOf, atI]; omega
      · gi_wp2
        go_end0
        exact ⟨⟨_, rfl⟩, .inr ⟨_, by rw [← HE.out]; exact HPR.out, hJx3⟩⟩
end
end Go.Proofs.YtcjlcbnjkkglbaaDoor
