/-
  Programs as values: the closures of tries, frees and things that are told; the walks of Lock, Unlock, program.
-/
import Derived.Test.YtjobdncikpnojaaLocks
import Derived.RangeFuncBox
import Derived.Deep.DeepCutAuto
import Derived.Deep.CutBlock
namespace Go.Proofs.Ytjobdncikpnojaa
open Go.RowKit

abbrev ptr (p : Nat) : Value := .pointer (some ⟨p, 0, none⟩)
/-- What keeps all blocks of the programs: those of other types may turn. -/
def KeepT (w w' : World) : Prop := ∀ (b : Nat) (cs : Array Value) (t : TypeId), w.heap[b]? = some (.cells cs t (0, 0)) → t ≠ 68 → t ≠ 71 → t ≠ 42 → t ≠ 51 → w'.heap[b]? = w.heap[b]?
theorem keepT_refl (w : World) : KeepT w w := fun _ _ _ _ _ _ _ _ => rfl
theorem KeepT.trans {a b c : World} (h : KeepT a b) (k : KeepT b c) : KeepT a c := fun i cs t hi h1 h2 h3 h4 => by
  have e := h i cs t hi h1 h2 h3 h4
  exact (k i cs t (e.trans hi) h1 h2 h3 h4).trans e
theorem keepT_below {w w' : World} (k : Below w.heap.size w w') : KeepT w w' := fun b _ _ h _ _ _ _ => k.block b (Array.getElem?_eq_some_iff.1 h).1
theorem keepT_only {w w' : World} {d t : Nat} {cs : Array Value} {f : Nat × Nat} (k : Only w w' d) (hd : w.heap[d]? = some (.cells cs t f)) (ht : t = 68 ∨ t = 71 ∨ t = 42 ∨ t = 51) : KeepT w w' := fun b _ _ h h1 h2 h3 h4 =>
  k.block b (Array.getElem?_eq_some_iff.1 h).1 (fun e => by
    cases e
    rw [h] at hd
    injection hd with hd
    injection hd with _ hd
    subst hd
    rcases ht with rfl | rfl | rfl | rfl <;> contradiction)
/-- One step as a value: v does x, and goes on with v'. -/
def Act1 (w : World) (K TB : Nat) (who : Int) (v : Value) (x : Int × Int) (v' : Value) : Prop :=
  (x.1 = 1 ∧ ∃ p1 p2 p3 p4 p5, v = .func (.func 29) #[] #[ptr p1, ptr p2, ptr p3, ptr p4, ptr p5] ∧ Boxed w p1 40 (ptr K) ∧ Boxed w p2 3 (.int .i64 who) ∧ Boxed w p3 3 (.int .i64 x.2) ∧ Boxed w p4 26 v ∧ Boxed w p5 26 v') ∨
  (x.1 = 2 ∧ ∃ p1 p2 p3 p4, v = .func (.func 31) #[] #[ptr p1, ptr p2, ptr p3, ptr p4] ∧ Boxed w p1 40 (ptr K) ∧ Boxed w p2 3 (.int .i64 who) ∧ Boxed w p3 3 (.int .i64 x.2) ∧ Boxed w p4 26 v') ∨
  (x.1 ≠ 1 ∧ x.1 ≠ 2 ∧ ∃ p1 p2 p3 p4, v = .func (.func 27) #[] #[ptr p1, ptr p2, ptr p3, ptr p4] ∧ w.heap[p1]? = some (.cells #[.int .i64 x.1, .int .i64 x.2] 47 (0, 0)) ∧ Boxed w p2 49 (ptr TB) ∧ Boxed w p3 3 (.int .i64 who) ∧ Boxed w p4 26 v')
/-- A program as a value. -/
def PB (w : World) (K TB : Nat) (who : Int) : Value → List (Int × Int) → Prop
  | v, [] => v = .nilFunc
  | v, x :: r => ∃ v', Act1 w K TB who v x v' ∧ PB w K TB who v' r
theorem KeepT.box {w w' : World} (k : KeepT w w') {b t : Nat} {v : Value} (h : Boxed w b t v) (ht : t ≠ 68 ∧ t ≠ 71 ∧ t ≠ 42 ∧ t ≠ 51) : Boxed w' b t v := (k b _ t h ht.1 ht.2.1 ht.2.2.1 ht.2.2.2).trans h
section
variable {w w' : World} {K TB : Nat} {who : Int}
theorem Act1.keep {v v' : Value} {x : Int × Int} (h : Act1 w K TB who v x v') (k : KeepT w w') : Act1 w' K TB who v x v' := by
  rcases h with ⟨h, p1, p2, p3, p4, p5, e, h1, h2, h3, h4, h5⟩ | ⟨h, p1, p2, p3, p4, e, h1, h2, h3, h4⟩ | ⟨h, h', p1, p2, p3, p4, e, h1, h2, h3, h4⟩
  · exact .inl ⟨h, p1, p2, p3, p4, p5, e, k.box h1 (by decide), k.box h2 (by decide), k.box h3 (by decide), k.box h4 (by decide), k.box h5 (by decide)⟩
  · exact .inr (.inl ⟨h, p1, p2, p3, p4, e, k.box h1 (by decide), k.box h2 (by decide), k.box h3 (by decide), k.box h4 (by decide)⟩)
  · exact .inr (.inr ⟨h, h', p1, p2, p3, p4, e, (k p1 _ 47 h1 (by decide) (by decide) (by decide) (by decide)).trans h1, k.box h2 (by decide), k.box h3 (by decide), k.box h4 (by decide)⟩)
theorem PB.keep : ∀ {L : List (Int × Int)} {v : Value}, PB w K TB who v L → KeepT w w' → PB w' K TB who v L
  | [], _, h, _ => h
  | _ :: _, _, ⟨v', h1, h2⟩, k => ⟨v', h1.keep k, h2.keep k⟩
theorem Act1.fn {v v' : Value} {x : Int × Int} (h : Act1 w K TB who v x v') : StepV v false := by
  rcases h with ⟨_, p1, p2, p3, p4, p5, rfl, _⟩ | ⟨_, p1, p2, p3, p4, rfl, _⟩ | ⟨_, _, p1, p2, p3, p4, rfl, _⟩ <;> exact .fn _ _ _
theorem PB.stepV {L : List (Int × Int)} {v : Value} (h : PB w K TB who v L) : StepV v L.isEmpty := by
  cases L with
  | nil => cases h; exact .nil
  | cons x r => obtain ⟨v', h1, _⟩ := h; exact h1.fn
end
theorem size1 (w : World) (a : Obj) : (w.alloc a).heap.size = w.heap.size + 1 := World.size_alloc w a
theorem box2 (w : World) (a : Obj) (t : Nat) (v : Value) : Boxed ((w.alloc a).alloc (.cells #[v] t)) (w.heap.size + 1) t v := by
  have := Boxed.new (w.alloc a) t v
  rwa [size1] at this
theorem box3 (w : World) (a b : Obj) (t : Nat) (v : Value) : Boxed (((w.alloc a).alloc b).alloc (.cells #[v] t)) (w.heap.size + 2) t v := by
  have := Boxed.new ((w.alloc a).alloc b) t v
  rwa [size1, size1] at this
theorem box4 (w : World) (a b c : Obj) (t : Nat) (v : Value) : Boxed ((((w.alloc a).alloc b).alloc c).alloc (.cells #[v] t)) (w.heap.size + 3) t v := by
  have := Boxed.new (((w.alloc a).alloc b).alloc c) t v
  rwa [size1, size1, size1] at this
theorem box5 (w : World) (a b c d : Obj) (t : Nat) (v : Value) : Boxed (((((w.alloc a).alloc b).alloc c).alloc d).alloc (.cells #[v] t)) (w.heap.size + 4) t v := by
  have := Boxed.new ((((w.alloc a).alloc b).alloc c).alloc d) t v
  rwa [size1, size1, size1, size1] at this
def lockV (w : World) : Value := .func (.func 29) #[] #[ptr w.heap.size, ptr (w.heap.size + 1), ptr (w.heap.size + 2), ptr (w.heap.size + 4), ptr (w.heap.size + 3)]
def lockW (w : World) (K : Nat) (who N : Int) (v' : Value) : World :=
  ((((w.alloc (.cells #[ptr K] 40)).alloc (.cells #[.int .i64 who] 3)).alloc (.cells #[.int .i64 N] 3)).alloc (.cells #[v'] 26)).alloc (.cells #[lockV w] 26)
theorem lock_act (w : World) (K TB : Nat) (who N : Int) (v' : Value) : Act1 (lockW w K who N v') K TB who (lockV w) (1, N) v' ∧ Below w.heap.size w (lockW w K who N v') := by
  refine ⟨.inl ⟨rfl, w.heap.size, w.heap.size + 1, w.heap.size + 2, w.heap.size + 4, w.heap.size + 3, rfl, ?_, ?_, ?_, ?_, ?_⟩, ?_⟩
  · exact ((((Boxed.new w 40 _).alloc _).alloc _).alloc _).alloc _
  · exact (((box2 w _ 3 _).alloc _).alloc _).alloc _
  · exact ((box3 w _ _ 3 _).alloc _).alloc _
  · exact box5 w _ _ _ _ 26 _
  · exact (box4 w _ _ _ 26 _).alloc _
  · exact below_alloc (below_alloc (below_alloc (below_alloc (below_new _ _) _) _) _) _
def unlockV (w : World) : Value := .func (.func 31) #[] #[ptr w.heap.size, ptr (w.heap.size + 1), ptr (w.heap.size + 2), ptr (w.heap.size + 3)]
def unlockW (w : World) (K : Nat) (who N : Int) (v' : Value) : World :=
  (((w.alloc (.cells #[ptr K] 40)).alloc (.cells #[.int .i64 who] 3)).alloc (.cells #[.int .i64 N] 3)).alloc (.cells #[v'] 26)
theorem unlock_act (w : World) (K TB : Nat) (who N : Int) (v' : Value) : Act1 (unlockW w K who N v') K TB who (unlockV w) (2, N) v' ∧ Below w.heap.size w (unlockW w K who N v') := by
  refine ⟨.inr (.inl ⟨rfl, w.heap.size, w.heap.size + 1, w.heap.size + 2, w.heap.size + 3, rfl, ?_, ?_, ?_, ?_⟩), ?_⟩
  · exact (((Boxed.new w 40 _).alloc _).alloc _).alloc _
  · exact ((box2 w _ 3 _).alloc _).alloc _
  · exact (box3 w _ _ 3 _).alloc _
  · exact box4 w _ _ _ 26 _
  · exact below_alloc (below_alloc (below_alloc (below_new _ _) _) _) _
theorem lock_any (K : Nat) (who N : Int) {v' : Value} {z : Bool} (hv : StepV v' z) (w : World) :
    Calls Try.prog 25 #[ptr K, .int .i64 who, .int .i64 N, v'] w fun e w' => e = .returned (lockV w) ∧ w' = lockW w K who N v' := by
  cases hv
  all_goals
    go_enter Try.func25, Try.ntmps25
    go_wp2
    go_ret
    exact ⟨rfl, rfl⟩
theorem unlock_any (K : Nat) (who N : Int) {v' : Value} {z : Bool} (hv : StepV v' z) (w : World) :
    Calls Try.prog 26 #[ptr K, .int .i64 who, .int .i64 N, v'] w fun e w' => e = .returned (unlockV w) ∧ w' = unlockW w K who N v' := by
  cases hv
  all_goals
    go_enter Try.func26, Try.ntmps26
    go_wp2
    go_ret
    exact ⟨rfl, rfl⟩
theorem boxed_belowT {w w' : World} {b t : Nat} {v : Value} (h : Boxed w b t v) (k : Below w.heap.size w w') : Boxed w' b t v := (k.block b h.lt).trans h
/-- Acts that can be read. -/
structure ActsR (w : World) (a : Option Addr) (L : List (Int × Int)) : Prop where
  at_ : 0 < L.length → ∃ b o, a = some ⟨b, o, none⟩ ∧ b < w.heap.size ∧ ∀ i x, L[i]? = some x → w.cell? ⟨b, o + i * 2, none⟩ = some (.int .i64 x.1) ∧ w.cell? ⟨b, o + i * 2 + 1, none⟩ = some (.int .i64 x.2)
theorem ActsR.below {w w' : World} {a : Option Addr} {L : List (Int × Int)} (h : ActsR w a L) (k : Below w.heap.size w w') : ActsR w' a L := ⟨fun hl => by
  obtain ⟨b, o, e, hb, hc⟩ := h.at_ hl
  exact ⟨b, o, e, Nat.lt_of_lt_of_le hb k.size, fun i x hx => ⟨(k.cell (p := ⟨b, o + i * 2, none⟩) hb).trans (hc i x hx).1, (k.cell (p := ⟨b, o + i * 2 + 1, none⟩) hb).trans (hc i x hx).2⟩⟩⟩
set_option maxHeartbeats 2000000 in
theorem program_any (K TB : Nat) (who : Int) (w : World) {a : Option Addr} {c : Nat} {L : List (Int × Int)} (hL : ActsR w a L) (hn : L.length ≤ 1000) (hlc : L.length ≤ c ∧ c ≤ 9223372036854775807) :
    Calls Try.prog 16 #[ptr K, .int .i64 who, .slice a L.length c, ptr TB] w fun e w' => ∃ v, e = .returned v ∧ PB w' K TB who v L ∧ Below w.heap.size w w' := by
  have b2 : Below w.heap.size w ((w.alloc (.cells #[.int .i64 who] 3)).alloc (.cells #[ptr TB] 49)) := below_alloc (below_new _ _) _
  have h5 : Boxed ((w.alloc (.cells #[.int .i64 who] 3)).alloc (.cells #[ptr TB] 49)) w.heap.size 3 (.int .i64 who) := (Boxed.new w 3 _).alloc _
  have h7 := box2 w (.cells #[.int .i64 who] 3) 49 (ptr TB)
  have hn2 : (L.length : Int) ≤ 1000 := by omega
  go_enter Try.func16, Try.ntmps16
  go_wp2_with fail
  generalize (w.alloc (.cells #[.int .i64 who] 3)).alloc (.cells #[ptr TB] 49) = W2 at *
  generalize hp5 : w.heap.size = p5 at h5 h7
  generalize hp7 : p5 + 1 = p7 at h7
  go_loopw [9, 10] (fun nv iv wr => ∃ j : Nat, j ≤ L.length ∧ iv = .int .i64 ((j : Int) - 1) ∧ PB wr K TB who nv (L.drop j) ∧ Below w.heap.size w wr ∧ Boxed wr p5 3 (.int .i64 who) ∧ Boxed wr p7 49 (ptr TB)) (fun _ iv _ => (intOf iv + 1).toNat)
  case atStart => exact ⟨L.length, Nat.le_refl _, rfl, by rw [List.drop_length]; rfl, b2, h5, h7⟩
  case round =>
    clear b2 h5 h7
    obtain ⟨j, hj, rfl, hpb, bl, h5, h7⟩ := hrel
    cases j with
    | zero =>
      have HP := Lib.hid (And.intro hpb bl)
      have hz := hpb.stepV
      generalize (L.drop 0).isEmpty = z at hz
      clear hpb bl
      cases hz
      all_goals
        go_wp2_with fail
        go_ret
        exact ⟨_, rfl, HP.out⟩
    | succ m =>
      have hm : m < L.length := by omega
      obtain ⟨x, hx⟩ : ∃ x, L[m]? = some x := ⟨_, List.getElem?_eq_getElem hm⟩
      have hdrop : L.drop m = x :: L.drop (m + 1) := by
        rw [List.drop_eq_getElem_cons hm]
        congr 1
        rw [List.getElem?_eq_getElem hm] at hx
        exact Option.some.inj hx
      obtain ⟨b, off, rfl, hb, hc⟩ := (hL.below bl).at_ (by omega)
      obtain ⟨c0, c1⟩ := hc m x hx
      have hi : ((m + 1 : Nat) : Int) - 1 = (m : Int) := by omega
      rw [hi]
      have HI := Lib.hid hi
      have hz := hpb.stepV
      generalize (L.drop (m + 1)).isEmpty = z at hz
      have HD := Lib.hid hdrop
      obtain ⟨k0, k1⟩ := x
      simp only at c0 c1
      clear hi hx hdrop hc
      have hmi : (0 : Int) ≤ (m : Int) := by omega
      have hmi2 : (m : Int) < (L.length : Int) := by omega
      have HPB := Lib.hid hpb
      have HBL := Lib.hid bl
      have H5 := Lib.hid h5
      have H7 := Lib.hid h7
      have c5 := h5.cell
      clear hpb bl h5 h7
      obtain ⟨nv, hnv⟩ : ∃ nv, nv = u9 := ⟨_, rfl⟩
      have HNV := Lib.hid hnv
      rw [← hnv] at hz HPB
      rw [← hnv]
      clear hnv HNV
      have b6 : Below wr.heap.size wr ((wr.alloc (.cells #[.int .i64 k0, .int .i64 k1] 47)).alloc (.cells #[nv] 26)) := below_alloc (below_new _ _) _
      have r6 : ((wr.alloc (.cells #[.int .i64 k0, .int .i64 k1] 47)).alloc (.cells #[nv] 26)).heap[wr.heap.size]? = some (.cells #[.int .i64 k0, .int .i64 k1] 47 (0, 0)) := by
        rw [(below_new (wr.alloc (.cells #[.int .i64 k0, .int .i64 k1] 47)) _).block _ (by rw [size1]; omega)]
        exact World.alloc_heap_new wr _
      have n6 := box2 wr (.cells #[.int .i64 k0, .int .i64 k1] 47) 26 nv
      have q0 : ((wr.alloc (.cells #[.int .i64 k0, .int .i64 k1] 47)).alloc (.cells #[nv] 26)).cell? ⟨wr.heap.size, 0, none⟩ = some (.int .i64 k0) := by unfold World.cell?; rw [r6]; rfl
      have q1 : ((wr.alloc (.cells #[.int .i64 k0, .int .i64 k1] 47)).alloc (.cells #[nv] 26)).cell? ⟨wr.heap.size, 1, none⟩ = some (.int .i64 k1) := by unfold World.cell?; rw [r6]; rfl
      obtain ⟨W6, hW6⟩ : ∃ W6, W6 = (wr.alloc (.cells #[.int .i64 k0, .int .i64 k1] 47)).alloc (.cells #[nv] 26) := ⟨_, rfl⟩
      rw [← hW6] at b6 r6 n6 q0 q1
      have HW6 := Lib.hid hW6
      have w5 := (boxed_belowT H5.out b6).cell
      have w7 := boxed_belowT H7.out b6
      have w12 := n6.cell
      have HP6 := Lib.hid (HPB.out.keep (keepT_below b6))
      have HB6 := Lib.hid (HBL.out.trans (b6.mono HBL.out.size))
      have H56 := Lib.hid (boxed_belowT H5.out b6)
      have H76 := Lib.hid w7
      have R6 := Lib.hid r6
      have N6 := Lib.hid n6
      clear hW6 b6 r6 n6 w7 HPB HBL H5 H7
      obtain ⟨q, hq⟩ : ∃ q, q = wr.heap.size := ⟨_, rfl⟩
      rw [← hq] at q0 q1 w12 R6 N6
      have HQ := Lib.hid hq
      clear hq
      have fin : ∀ (v : Value) (W7 : World), Act1 W7 K TB who v (k0, k1) nv → Below W6.heap.size W6 W7 →
          PB W7 K TB who v (L.drop m) ∧ Below w.heap.size w W7 ∧ Boxed W7 p5 3 (.int .i64 who) ∧ Boxed W7 p7 49 (ptr TB) := fun v W7 ha hb => by
        refine ⟨?_, HB6.out.trans (hb.mono HB6.out.size), boxed_belowT H56.out hb, boxed_belowT H76.out hb⟩
        rw [HD.out]
        exact ⟨nv, ha, HP6.out.keep (keepT_below hb)⟩
      have FIN := Lib.hid fin
      clear fin
      have hzz := hz
      cases hz
      all_goals
        go_upto_region 6 with fail
        rw [← HW6.out, ← HQ.out]
        rcases Decidable.em (k0 = 1) with hk1 | hk1
        · have e1 : (k0 == 1) = true := by rw [hk1]; rfl
          have HK := Lib.hid hk1
          clear hk1
          go_wp2_with fail
          refine (lock_any K who k1 hzz W6).mono ?_
          rintro e W7 ⟨rfl, rfl⟩
          have hla := lock_act W6 K TB who k1
          have HF := Lib.hid (FIN.out _ _ (by rw [HK.out]; exact (hla _).1) (hla _).2)
          clear hla
          unfold lockV
          go_wp2_with fail
          go_roundw
          case rel => exact ⟨m, by omega, by go_num, HF.out⟩
          case measure => simp [intOf] <;> omega
        · have e1 : (k0 == 1) = false := beq_eq_false_iff_ne.2 hk1
          rcases Decidable.em (k0 = 2) with hk2 | hk2
          · have e2 : (k0 == 2) = true := by rw [hk2]; rfl
            have HK := Lib.hid hk2
            clear hk1 hk2
            go_wp2_with fail
            refine (unlock_any K who k1 hzz W6).mono ?_
            rintro e W7 ⟨rfl, rfl⟩
            have hla := unlock_act W6 K TB who k1
            have HF := Lib.hid (FIN.out _ _ (by rw [HK.out]; exact (hla _).1) (hla _).2)
            clear hla
            unfold unlockV
            go_wp2_with fail
            go_roundw
            case rel => exact ⟨m, by omega, by go_num, HF.out⟩
            case measure => simp [intOf] <;> omega
          · have e2 : (k0 == 2) = false := beq_eq_false_iff_ne.2 hk2
            have HF := Lib.hid (FIN.out (.func (.func 27) #[] #[ptr q, ptr p7, ptr p5, ptr (q + 1)]) W6 (.inr (.inr ⟨hk1, hk2, q, p7, p5, q + 1, rfl, R6.out, H76.out, H56.out, N6.out⟩)) (Below.refl _ _))
            clear hk1 hk2
            go_wp2_with fail
            go_roundw
            case rel => exact ⟨m, by omega, by go_num, HF.out⟩
            case measure => simp [intOf] <;> omega
end Go.Proofs.Ytjobdncikpnojaa
