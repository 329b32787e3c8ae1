/-
  Programs as values whose blocks lie from some one on; a step of one, with all blocks that it turns.
-/
import Derived.Test.YtjobdncikpnojaaState
namespace Go.Proofs.Ytjobdncikpnojaa
open Go.RowKit
/-- The blocks of S may have turned. -/
structure KeepL (w w' : World) (S : List Nat) : Prop where
  os : w'.os = w.os
  tape : w'.tape = w.tape
  output : w'.output = w.output
  size : w.heap.size ≤ w'.heap.size
  block : ∀ b, b < w.heap.size → b ∉ S → w'.heap[b]? = w.heap[b]?
section
variable {w w' w'' : World} {S S' : List Nat}
theorem keepL_refl (w : World) (S : List Nat) : KeepL w w S := ⟨rfl, rfl, rfl, Nat.le_refl _, fun _ _ _ => rfl⟩
theorem KeepL.trans (h : KeepL w w' S) (k : KeepL w' w'' S) : KeepL w w'' S :=
  ⟨k.os.trans h.os, k.tape.trans h.tape, k.output.trans h.output, Nat.le_trans h.size k.size, fun b hb hn => (k.block b (Nat.lt_of_lt_of_le hb h.size) hn).trans (h.block b hb hn)⟩
theorem KeepL.mono (h : KeepL w w' S) (hs : ∀ b, b ∈ S → b ∈ S') : KeepL w w' S' := ⟨h.os, h.tape, h.output, h.size, fun b hb hn => h.block b hb (fun hc => hn (hs b hc))⟩
theorem keepL_only {d : Nat} (k : Only w w' d) (hd : d ∈ S) : KeepL w w' S := ⟨k.os, k.tape, k.output, k.size, fun b hb hn => k.block b hb (fun e => by cases e; exact hn hd)⟩
theorem keepL_tri {p q r : Nat} (k : Tri w w' p q r) (h : p ∈ S ∧ q ∈ S ∧ r ∈ S) : KeepL w w' S := ⟨k.os, k.tape, k.output, k.size, fun b hb hn => k.block b hb (fun e => hn (e ▸ h.1)) (fun e => hn (e ▸ h.2.1)) (fun e => hn (e ▸ h.2.2))⟩
theorem keepL_below (k : Below w.heap.size w w') (S : List Nat) : KeepL w w' S := ⟨k.os, k.tape, k.output, k.size, fun b hb _ => k.block b hb⟩
theorem keepL_set (w : World) {S : List Nat} (b o : Nat) (v : Value) (hb : b ∈ S) : KeepL w (w.setCell ⟨b, o, none⟩ v) S := keepL_only (only_set (only_refl w b) o v) hb
theorem keepL_drewN (w : World) (n : Nat) (S : List Nat) : KeepL w (w.drewN n) S := ⟨rfl, rfl, rfl, Nat.le_refl _, fun _ _ _ => rfl⟩
theorem below_keepL {w0 : World} (h : Below w0.heap.size w0 w) (k : KeepL w w' S) (hs : ∀ b, b ∈ S → w0.heap.size ≤ b) : Below w0.heap.size w0 w' :=
  ⟨k.os.trans h.os, k.tape.trans h.tape, k.output.trans h.output, Nat.le_trans h.size k.size, fun i hi => (k.block i (Nat.lt_of_lt_of_le hi h.size) (fun hc => Nat.lt_irrefl _ (Nat.lt_of_lt_of_le hi (hs i hc)))).trans (h.block i hi)⟩
end
/-- What a closure holds lies from Z on. -/
def CapZ (Z : Nat) (v : Value) : Prop := ∀ (F : Fn) (cap : Array Value), v = .func F #[] cap → ∀ p, ptr p ∈ cap → Z ≤ p
/-- A program as a value, its blocks from Z on. -/
def PBx (Z : Nat) (w : World) (K TB : Nat) (who : Int) : Value → List (Int × Int) → Prop
  | v, [] => v = .nilFunc
  | v, x :: r => ∃ v', Act1 w K TB who v x v' ∧ CapZ Z v ∧ PBx Z w K TB who v' r
/-- What keeps all blocks of the programs. -/
def KeepZ (Z : Nat) (w w' : World) : Prop := ∀ (b : Nat) (cs : Array Value) (t : TypeId), Z ≤ b → w.heap[b]? = some (.cells cs t (0, 0)) → t ≠ 68 → t ≠ 71 → t ≠ 42 → t ≠ 51 → w'.heap[b]? = w.heap[b]?
theorem keepZ_refl (Z : Nat) (w : World) : KeepZ Z w w := fun _ _ _ _ _ _ _ _ _ => rfl
theorem KeepT.keepZ {Z : Nat} {w w' : World} (k : KeepT w w') : KeepZ Z w w' := fun b cs t _ h h1 h2 h3 h4 => k b cs t h h1 h2 h3 h4
theorem KeepZ.trans {Z : Nat} {a b c : World} (h : KeepZ Z a b) (k : KeepZ Z b c) : KeepZ Z a c := fun i cs t hz hi h1 h2 h3 h4 => by
  have e := h i cs t hz hi h1 h2 h3 h4
  exact (k i cs t hz (e.trans hi) h1 h2 h3 h4).trans e
theorem KeepL.keepZ {Z : Nat} {w w' : World} {S : List Nat} (k : KeepL w w' S) (hs : ∀ b, b ∈ S → b < Z ∨ ∃ cs t, w.heap[b]? = some (.cells cs t (0, 0)) ∧ (t = 68 ∨ t = 71 ∨ t = 42 ∨ t = 51)) : KeepZ Z w w' := fun b cs t hz hb h1 h2 h3 h4 => by
  refine k.block b (Array.getElem?_eq_some_iff.1 hb).1 fun hc => ?_
  rcases hs b hc with h | ⟨cs', t', h, ht⟩
  · omega
  · rw [hb] at h
    injection h with h
    injection h with _ h
    subst h
    rcases ht with rfl | rfl | rfl | rfl <;> contradiction
section
variable {Z : Nat} {w w' : World} {K TB : Nat} {who : Int}
theorem Act1.keepZ {v v' : Value} {x : Int × Int} (h : Act1 w K TB who v x v') (hz : CapZ Z v) (k : KeepZ Z w w') : Act1 w' K TB who v x v' := by
  have box : ∀ {b t : Nat} {u : Value}, Z ≤ b → Boxed w b t u → (t ≠ 68 ∧ t ≠ 71 ∧ t ≠ 42 ∧ t ≠ 51) → Boxed w' b t u := fun hb h ht => (k _ _ _ hb h ht.1 ht.2.1 ht.2.2.1 ht.2.2.2).trans h
  rcases h with ⟨h, p1, p2, p3, p4, p5, e, h1, h2, h3, h4, h5⟩ | ⟨h, p1, p2, p3, p4, e, h1, h2, h3, h4⟩ | ⟨h, h', p1, p2, p3, p4, e, h1, h2, h3, h4⟩
  · have q := hz _ _ e
    exact .inl ⟨h, p1, p2, p3, p4, p5, e, box (q p1 (by simp)) h1 (by decide), box (q p2 (by simp)) h2 (by decide), box (q p3 (by simp)) h3 (by decide), box (q p4 (by simp)) h4 (by decide), box (q p5 (by simp)) h5 (by decide)⟩
  · have q := hz _ _ e
    exact .inr (.inl ⟨h, p1, p2, p3, p4, e, box (q p1 (by simp)) h1 (by decide), box (q p2 (by simp)) h2 (by decide), box (q p3 (by simp)) h3 (by decide), box (q p4 (by simp)) h4 (by decide)⟩)
  · have q := hz _ _ e
    exact .inr (.inr ⟨h, h', p1, p2, p3, p4, e, (k p1 _ 47 (q p1 (by simp)) h1 (by decide) (by decide) (by decide) (by decide)).trans h1, box (q p2 (by simp)) h2 (by decide), box (q p3 (by simp)) h3 (by decide), box (q p4 (by simp)) h4 (by decide)⟩)
theorem PBx.keep : ∀ {L : List (Int × Int)} {v : Value}, PBx Z w K TB who v L → KeepZ Z w w' → PBx Z w' K TB who v L
  | [], _, h, _ => h
  | _ :: _, _, ⟨v', h1, hz, h2⟩, k => ⟨v', h1.keepZ hz k, hz, h2.keep k⟩
theorem PBx.stepV {L : List (Int × Int)} {v : Value} (h : PBx Z w K TB who v L) : StepV v L.isEmpty := by
  cases L with
  | nil => cases h; exact .nil
  | cons x r => obtain ⟨v', h1, _⟩ := h; exact h1.fn
theorem PBx.func {v : Value} {L : List (Int × Int)} (h : PBx Z w K TB who v L) (hL : 0 < L.length) : ∃ a b c, v = .func a b c := by
  cases L with
  | nil => simp at hL
  | cons x r =>
    have := h.stepV
    generalize hz : (x :: r).isEmpty = z at this
    cases this with
    | nil => simp at hz
    | fn a b c => exact ⟨a, b, c, rfl⟩
end
theorem capZ_lock {Z : Nat} {w : World} (h : Z ≤ w.heap.size) : CapZ Z (lockV w) := fun F cap e p hp => by
  unfold lockV at e
  injection e with _ _ e
  subst e
  simp at hp
  omega
theorem capZ_unlock {Z : Nat} {w : World} (h : Z ≤ w.heap.size) : CapZ Z (unlockV w) := fun F cap e p hp => by
  unfold unlockV at e
  injection e with _ _ e
  subst e
  simp at hp
  omega
theorem capZ_tell {Z p1 p2 p3 p4 : Nat} (h : Z ≤ p1 ∧ Z ≤ p2 ∧ Z ≤ p3 ∧ Z ≤ p4) : CapZ Z (.func (.func 27) #[] #[ptr p1, ptr p2, ptr p3, ptr p4]) := fun F cap e p hp => by
  injection e with _ _ e
  subst e
  simp at hp
  omega
section
variable {w0 w w' : World} {T B n : Nat} {nx : Nat → Value} {dn : Nat → Int} {Z K TB c g : Nat} {h : Lk.Hold} {a : Option Addr} {told : List (Int × Int)}
/-- A step's turn. -/
theorem SW.doneL (s : SW w0 w T B n nx dn Z K TB h a c g told) {h' : Lk.Hold} {told' : List (Int × Int)} (d : Done w w' Z K TB g h' told') : ∃ a' c' g', SW w0 w' T B n nx dn Z K TB h' a' c' g' told' ∧ KeepT w w' ∧ (g' = g ∨ w.heap.size ≤ g') ∧ Tri w w' K TB g := by
  obtain ⟨a', c', g', l, hg, k⟩ := d
  have hn := s.neg
  exact ⟨a', c', g', ⟨s.tt.of_blocks (k.block T s.tt.lt s.ne.1 s.ne.2.1 hn.1) (k.block B s.tt.ltB s.ne.2.2.1 s.ne.2.2.2 hn.2.1), l, below_tri s.bl k s.lo.2.2.1 s.lo.2.2.2 hn.2.2, s.lo, s.hi, s.ne, Nat.le_trans s.zw k.size⟩, s.lw.keepT k, hg, k⟩
set_option maxHeartbeats 1000000 in
theorem run_x (s : SW w0 w T B n nx dn Z K TB h a c g told) (k : Nat) (hk : k < n) (f : Bool) {who : Int} (hwho : who ≤ 9223372036854775807) {x : Int × Int} {r : List (Int × Int)} {ZP : Nat} (hp : PBx ZP w K TB who (nx k) (x :: r)) (hd : 0 ≤ dn k) (hd2 : dn k < 1000000) (hn : told.length ≤ 1000000) :
    Calls Try.prog 8 #[ptr T, .int .i64 (k : Int), .bool f] w fun e w' => ∃ v2 a' c' g', e = .returned (.tuple #[.bool (restF (stepF who h x).1 x r).isEmpty, .int .i64 0]) ∧
      SW w0 w' T B n (upV nx k v2) (upI dn k (dn k + 1)) Z K TB (stepF who h x).2.1 a' c' g' (told ++ (stepF who h x).2.2) ∧ KeepT w w' ∧ PBx ZP w' K TB who v2 (restF (stepF who h x).1 x r) ∧ (g' = g ∨ w.heap.size ≤ g') ∧ KeepL w w' [B, K, TB, g] := by
  obtain ⟨v', ha, hcz, hr⟩ := hp
  have hv := hr.stepV
  obtain ⟨s1, k1⟩ := s.slot (s.tt.setD k (dn k + 1))
  have ha1 := ha.keep k1
  have hl1 : KeepL w (w.setCell ⟨B, k * 2 + 1, none⟩ (.int .i64 (dn k + 1))) [B, K, TB, g] := keepL_set w B _ _ (by simp)
  have hsz : (w.setCell ⟨B, k * 2 + 1, none⟩ (.int .i64 (dn k + 1))).heap.size = w.heap.size := by simp [World.setCell]
  have hfin : ∀ (v : Value) (w2 : World), v = goOn (stepF who h x).1 (nx k) v' → Done (w.setCell ⟨B, k * 2 + 1, none⟩ (.int .i64 (dn k + 1))) w2 Z K TB g (stepF who h x).2.1 (told ++ (stepF who h x).2.2) →
      ∃ a' c' g', SW w0 w2 T B n nx (upI dn k (dn k + 1)) Z K TB (stepF who h x).2.1 a' c' g' (told ++ (stepF who h x).2.2) ∧ KeepT w w2 ∧ PBx ZP w2 K TB who v (restF (stepF who h x).1 x r) ∧ (g' = g ∨ w.heap.size ≤ g') ∧ KeepL w w2 [B, K, TB, g] := by
    intro v w2 hve hdn
    obtain ⟨a', c', g', s2, k2, hg, ht⟩ := s1.doneL hdn
    have k12 := k1.trans k2
    rw [hsz] at hg
    refine ⟨a', c', g', s2, k12, ?_, hg, hl1.trans (keepL_tri ht (by simp))⟩
    subst hve
    unfold goOn restF
    split
    · exact rfl
    · split
      · exact ⟨v', ha.keep k12, hcz, hr.keep k12.keepZ⟩
      · exact hr.keep k12.keepZ
  have key : ∀ (F : Nat) (cap : Array Value), nx k = .func (.func F) #[] cap → (∀ (xs : Array Value) (W : World), Sem.run Try.prog (callFunc F xs) W = .ok (.enter F xs) W) →
      (Calls Try.prog F (#[.bool f] ++ cap) (w.setCell ⟨B, k * 2 + 1, none⟩ (.int .i64 (dn k + 1))) fun e w' => e = .returned (goOn (stepF who h x).1 (nx k) v') ∧ Done (w.setCell ⟨B, k * 2 + 1, none⟩ (.int .i64 (dn k + 1))) w' Z K TB g (stepF who h x).2.1 (told ++ (stepF who h x).2.2)) →
      Calls Try.prog 8 #[ptr T, .int .i64 (k : Int), .bool f] w fun e w' => ∃ v2 a' c' g', e = .returned (.tuple #[.bool (restF (stepF who h x).1 x r).isEmpty, .int .i64 0]) ∧
        SW w0 w' T B n (upV nx k v2) (upI dn k (dn k + 1)) Z K TB (stepF who h x).2.1 a' c' g' (told ++ (stepF who h x).2.2) ∧ KeepT w w' ∧ PBx ZP w' K TB who v2 (restF (stepF who h x).1 x r) ∧ (g' = g ∨ w.heap.size ≤ g') ∧ KeepL w w' [B, K, TB, g] := by
    intro F cap hF hcf hcall
    refine (run_fn s.tt k hk f F cap hF hd hd2 (fun v w2 => v = goOn (stepF who h x).1 (nx k) v' ∧ Done (w.setCell ⟨B, k * 2 + 1, none⟩ (.int .i64 (dn k + 1))) w2 Z K TB g (stepF who h x).2.1 (told ++ (stepF who h x).2.2)) hcf (hcall.mono ?_)).mono ?_
    · rintro e w2 ⟨rfl, hdn⟩
      obtain ⟨a', c', g', s2, k2, hp2, _⟩ := hfin _ w2 rfl hdn
      exact ⟨_, _, rfl, hp2.stepV, s2.tt, rfl, hdn⟩
    · rintro e w' ⟨v, z, w2, rfl, hz, t2, rfl, hve, hdn⟩
      obtain ⟨a', c', g', s2, k2, hp2, hg, hl⟩ := hfin v w2 hve hdn
      obtain ⟨s3, k3⟩ := s2.slot (t2.setN k v)
      have hzz : z = (restF (stepF who h x).1 x r).isEmpty := by
        have h1 := hp2.stepV
        revert hz h1
        generalize (restF (stepF who h x).1 x r).isEmpty = z2
        intro hz h1
        cases hz <;> cases h1 <;> rfl
      subst hzz
      exact ⟨v, a', c', g', rfl, s3, k2.trans k3, hp2.keep k3.keepZ, hg, hl.trans (keepL_set w2 B _ _ (by simp))⟩
  rcases ha1 with ⟨hx, p1, p2, p3, p4, p5, e, h1, h2, h3, h4, h5⟩ | ⟨hx, p1, p2, p3, p4, e, h1, h2, h3, h4⟩ | ⟨hx, hx', p1, p2, p3, p4, e, h1, h2, h3, h4⟩
  · obtain ⟨x0, N⟩ := x
    simp only at hx h3
    subst hx
    exact key 29 _ e cf29 (lock_step s1.lw hwho hv f e h1 h2 h3 h4 h5)
  · obtain ⟨x0, N⟩ := x
    simp only at hx h3
    subst hx
    exact key 31 _ e cf31 (unlock_step s1.lw hwho hv f h1 h2 h3 h4)
  · exact key 27 _ e cf27 (tell_step s1.lw s1.zw hn x hx hx' hv f h1 h2 h3 h4)
end
set_option maxHeartbeats 2000000 in
theorem program_x (Z K TB : Nat) (who : Int) (w : World) (hZ : Z ≤ w.heap.size) {a : Option Addr} {c : Nat} {L : List (Int × Int)} (hL : ActsR w a L) (hn : L.length ≤ 1000) (hlc : L.length ≤ c ∧ c ≤ 9223372036854775807) :
    Calls Try.prog 16 #[ptr K, .int .i64 who, .slice a L.length c, ptr TB] w fun e w' => ∃ v, e = .returned v ∧ PBx Z w' K TB who v L ∧ Below w.heap.size w w' := by
  have b2 : Below w.heap.size w ((w.alloc (.cells #[.int .i64 who] 3)).alloc (.cells #[ptr TB] 49)) := below_alloc (below_new _ _) _
  have h5 : Boxed ((w.alloc (.cells #[.int .i64 who] 3)).alloc (.cells #[ptr TB] 49)) w.heap.size 3 (.int .i64 who) := (Boxed.new w 3 _).alloc _
  have h7 := box2 w (.cells #[.int .i64 who] 3) 49 (ptr TB)
  have hn2 : (L.length : Int) ≤ 1000 := by omega
  go_enter Try.func16, Try.ntmps16
  go_wp2_with fail
  generalize (w.alloc (.cells #[.int .i64 who] 3)).alloc (.cells #[ptr TB] 49) = W2 at *
  generalize hp5 : w.heap.size = p5 at h5 h7
  generalize hp7 : p5 + 1 = p7 at h7
  go_loopw [9, 10] (fun nv iv wr => ∃ j : Nat, j ≤ L.length ∧ iv = .int .i64 ((j : Int) - 1) ∧ PBx Z wr K TB who nv (L.drop j) ∧ Below w.heap.size w wr ∧ Boxed wr p5 3 (.int .i64 who) ∧ Boxed wr p7 49 (ptr TB)) (fun _ iv _ => (intOf iv + 1).toNat)
  case atStart => exact ⟨L.length, Nat.le_refl _, rfl, by rw [List.drop_length]; rfl, b2, h5, h7⟩
  case round =>
    clear b2 h5 h7
    obtain ⟨j, hj, rfl, hpb, bl, h5, h7⟩ := hrel
    cases j with
    | zero =>
      have HP := Lib.hid (And.intro hpb bl)
      have hz := hpb.stepV
      generalize (L.drop 0).isEmpty = z at hz
      clear hpb bl
      cases hz
      all_goals
        go_wp2_with fail
        go_ret
        exact ⟨_, rfl, HP.out⟩
    | succ m =>
      have hm : m < L.length := by omega
      obtain ⟨x, hx⟩ : ∃ x, L[m]? = some x := ⟨_, List.getElem?_eq_getElem hm⟩
      have hdrop : L.drop m = x :: L.drop (m + 1) := by
        rw [List.drop_eq_getElem_cons hm]
        congr 1
        rw [List.getElem?_eq_getElem hm] at hx
        exact Option.some.inj hx
      obtain ⟨b, off, rfl, hb, hc⟩ := (hL.below bl).at_ (by omega)
      obtain ⟨c0, c1⟩ := hc m x hx
      have hi : ((m + 1 : Nat) : Int) - 1 = (m : Int) := by omega
      rw [hi]
      have HI := Lib.hid hi
      have hz := hpb.stepV
      generalize (L.drop (m + 1)).isEmpty = z at hz
      have HD := Lib.hid hdrop
      obtain ⟨k0, k1⟩ := x
      simp only at c0 c1
      clear hi hx hdrop hc
      have hmi : (0 : Int) ≤ (m : Int) := by omega
      have hmi2 : (m : Int) < (L.length : Int) := by omega
      have HPB := Lib.hid hpb
      have HBL := Lib.hid bl
      have H5 := Lib.hid h5
      have H7 := Lib.hid h7
      have c5 := h5.cell
      have HBW := Lib.hid bl.size
      clear hpb bl h5 h7
      obtain ⟨nv, hnv⟩ : ∃ nv, nv = u9 := ⟨_, rfl⟩
      have HNV := Lib.hid hnv
      rw [← hnv] at hz HPB
      rw [← hnv]
      clear hnv HNV
      have b6 : Below wr.heap.size wr ((wr.alloc (.cells #[.int .i64 k0, .int .i64 k1] 47)).alloc (.cells #[nv] 26)) := below_alloc (below_new _ _) _
      have r6 : ((wr.alloc (.cells #[.int .i64 k0, .int .i64 k1] 47)).alloc (.cells #[nv] 26)).heap[wr.heap.size]? = some (.cells #[.int .i64 k0, .int .i64 k1] 47 (0, 0)) := by
        rw [(below_new (wr.alloc (.cells #[.int .i64 k0, .int .i64 k1] 47)) _).block _ (by rw [size1]; omega)]
        exact World.alloc_heap_new wr _
      have n6 := box2 wr (.cells #[.int .i64 k0, .int .i64 k1] 47) 26 nv
      have q0 : ((wr.alloc (.cells #[.int .i64 k0, .int .i64 k1] 47)).alloc (.cells #[nv] 26)).cell? ⟨wr.heap.size, 0, none⟩ = some (.int .i64 k0) := by unfold World.cell?; rw [r6]; rfl
      have q1 : ((wr.alloc (.cells #[.int .i64 k0, .int .i64 k1] 47)).alloc (.cells #[nv] 26)).cell? ⟨wr.heap.size, 1, none⟩ = some (.int .i64 k1) := by unfold World.cell?; rw [r6]; rfl
      obtain ⟨W6, hW6⟩ : ∃ W6, W6 = (wr.alloc (.cells #[.int .i64 k0, .int .i64 k1] 47)).alloc (.cells #[nv] 26) := ⟨_, rfl⟩
      rw [← hW6] at b6 r6 n6 q0 q1
      have HW6 := Lib.hid hW6
      have w5 := (boxed_belowT H5.out b6).cell
      have w7 := boxed_belowT H7.out b6
      have w12 := n6.cell
      have HP6 := Lib.hid (HPB.out.keep (keepT_below b6).keepZ)
      have HB6 := Lib.hid (HBL.out.trans (b6.mono HBL.out.size))
      have HZ6 := Lib.hid (Nat.le_trans hZ HB6.out.size)
      have H56 := Lib.hid (boxed_belowT H5.out b6)
      have H76 := Lib.hid w7
      have R6 := Lib.hid r6
      have N6 := Lib.hid n6
      clear hW6 b6 r6 n6 w7 HPB HBL H5 H7
      obtain ⟨q, hq⟩ : ∃ q, q = wr.heap.size := ⟨_, rfl⟩
      rw [← hq] at q0 q1 w12 R6 N6
      have HQ := Lib.hid hq
      have HZQ := Lib.hid (show Z ≤ q ∧ Z ≤ p7 ∧ Z ≤ p5 ∧ Z ≤ q + 1 from by have := HBW.out; omega)
      clear hq
      have fin : ∀ (v : Value) (W7 : World), Act1 W7 K TB who v (k0, k1) nv → CapZ Z v → Below W6.heap.size W6 W7 →
          PBx Z W7 K TB who v (L.drop m) ∧ Below w.heap.size w W7 ∧ Boxed W7 p5 3 (.int .i64 who) ∧ Boxed W7 p7 49 (ptr TB) := fun v W7 ha hcz hb => by
        refine ⟨?_, HB6.out.trans (hb.mono HB6.out.size), boxed_belowT H56.out hb, boxed_belowT H76.out hb⟩
        rw [HD.out]
        exact ⟨nv, ha, hcz, HP6.out.keep (keepT_below hb).keepZ⟩
      have FIN := Lib.hid fin
      clear fin
      have hzz := hz
      cases hz
      all_goals
        go_upto_region 6 with fail
        rw [← HW6.out, ← HQ.out]
        rcases Decidable.em (k0 = 1) with hk1 | hk1
        · have e1 : (k0 == 1) = true := by rw [hk1]; rfl
          have HK := Lib.hid hk1
          clear hk1
          go_wp2_with fail
          refine (lock_any K who k1 hzz W6).mono ?_
          rintro e W7 ⟨rfl, rfl⟩
          have hla := lock_act W6 K TB who k1
          have HF := Lib.hid (FIN.out _ _ (by rw [HK.out]; exact (hla _).1) (capZ_lock HZ6.out) (hla _).2)
          clear hla
          unfold lockV
          go_wp2_with fail
          go_roundw
          case rel => exact ⟨m, by omega, by go_num, HF.out⟩
          case measure => simp [intOf] <;> omega
        · have e1 : (k0 == 1) = false := beq_eq_false_iff_ne.2 hk1
          rcases Decidable.em (k0 = 2) with hk2 | hk2
          · have e2 : (k0 == 2) = true := by rw [hk2]; rfl
            have HK := Lib.hid hk2
            clear hk1 hk2
            go_wp2_with fail
            refine (unlock_any K who k1 hzz W6).mono ?_
            rintro e W7 ⟨rfl, rfl⟩
            have hla := unlock_act W6 K TB who k1
            have HF := Lib.hid (FIN.out _ _ (by rw [HK.out]; exact (hla _).1) (capZ_unlock HZ6.out) (hla _).2)
            clear hla
            unfold unlockV
            go_wp2_with fail
            go_roundw
            case rel => exact ⟨m, by omega, by go_num, HF.out⟩
            case measure => simp [intOf] <;> omega
          · have e2 : (k0 == 2) = false := beq_eq_false_iff_ne.2 hk2
            have HF := Lib.hid (FIN.out (.func (.func 27) #[] #[ptr q, ptr p7, ptr p5, ptr (q + 1)]) W6 (.inr (.inr ⟨hk1, hk2, q, p7, p5, q + 1, rfl, R6.out, H76.out, H56.out, N6.out⟩)) (capZ_tell HZQ.out) (Below.refl _ _))
            clear hk1 hk2
            go_wp2_with fail
            go_roundw
            case rel => exact ⟨m, by omega, by go_num, HF.out⟩
            case measure => simp [intOf] <;> omega
end Go.Proofs.Ytjobdncikpnojaa
