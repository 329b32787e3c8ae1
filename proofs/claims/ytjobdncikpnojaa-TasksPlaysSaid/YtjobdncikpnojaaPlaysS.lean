/-
  The table, the locks, the document's world, together: behind each call they say the same.
-/
import Derived.Test.YtjobdncikpnojaaRefS
import Derived.Test.YtjobdncikpnojaaOpsT
namespace Go.Proofs.Ytjobdncikpnojaa
open Go.RowKit
def CpuOk (w0 w : World) (Z K TB i : Nat) (v : Value) (on : Bool) (p : Value) (pc : Int) : Prop :=
  (on = false ∧ v = .nilFunc) ∨ (on = true ∧ ∃ (L : List (Int × Int)) (a : Option Addr) (c k : Nat), p = .slice a L.length c ∧ ActsR w0 a L ∧ tameL L ∧ pc = (k : Int) ∧ k < L.length ∧ PBx Z w K TB (i : Int) v (L.drop k))
theorem CpuOk.keep {w0 w w' : World} {Z K TB i : Nat} {v : Value} {on : Bool} {p : Value} {pc : Int} (h : CpuOk w0 w Z K TB i v on p pc) (k : KeepZ Z w w') : CpuOk w0 w' Z K TB i v on p pc := by
  rcases h with h | ⟨h, L, a, c, j, h1, h2, h3, h4, h5, h6⟩
  · exact .inl h
  · exact .inr ⟨h, L, a, c, j, h1, h2, h3, h4, h5, h6.keep k⟩
section
variable {w0 w w' : World} {T B n : Nat} {nx : Nat → Value} {dn : Nat → Int} {Z K TB : Nat} {h : Lk.Hold} {a : Option Addr} {c g : Nat} {told : List (Int × Int)} {S : List Nat}
theorem SW.keepL (s : SW w0 w T B n nx dn Z K TB h a c g told) (k : KeepL w w' S) (h0 : T ∉ S ∧ B ∉ S ∧ K ∉ S ∧ TB ∉ S) (h1 : a ≠ none → g ∉ S) (hlo : ∀ b, b ∈ S → w0.heap.size ≤ b) : SW w0 w' T B n nx dn Z K TB h a c g told := by
  refine ⟨s.tt.of_blocks (k.block T s.tt.lt h0.1) (k.block B s.tt.ltB h0.2.1), ⟨⟨s.lw.lk.row.of_block (k.block K s.lw.lk.row.lt h0.2.2.1), s.lw.lk.le, s.lw.lk.ok⟩, (k.block TB s.lw.tb.lt h0.2.2.2).trans s.lw.tb, s.lw.own.of_block k.size fun ha => k.block g s.lw.ltg (h1 ha), s.lw.gn⟩, below_keepL s.bl k hlo, s.lo, s.hi, s.ne, Nat.le_trans s.zw k.size⟩
/-- The types of its blocks. -/
theorem SW.typ (s : SW w0 w T B n nx dn Z K TB h a c g told) : (∃ cs, w.heap[B]? = some (.cells cs 68 (0, 0))) ∧ (∃ cs, w.heap[K]? = some (.cells cs 71 (0, 0))) ∧ (∃ cs, w.heap[TB]? = some (.cells cs 42 (0, 0))) ∧ ((∃ cs, w.heap[g]? = some (.cells cs 51 (0, 0))) ∨ g = TB) := by
  refine ⟨cells_of_row s.tt.row, cells_of_row s.lw.lk.row, ⟨_, s.lw.tb⟩, ?_⟩
  by_cases ha : a = none
  · exact .inr (s.lw.gn ha)
  · left
    rcases s.lw.own.own.2 with ⟨h1, _⟩ | ⟨g', cap, cur, h1, _, hg, _⟩
    · injection h1 with h1 _ _; exact absurd h1 ha
    · injection h1 with h1 _ _
      have e := (s.lw.own.blk _ h1).1
      cases e
      exact ⟨cur, hg⟩
end
/-- A call's own copy stays. -/
def Keep59 (w w' : World) : Prop := ∀ (b : Nat) (cs : Array Value), w.heap[b]? = some (.cells cs 59 (0, 0)) → w'.heap[b]? = some (.cells cs 59 (0, 0))
theorem KeepT.k59 {w w' : World} (k : KeepT w w') : Keep59 w w' := fun b cs h => (k b cs 59 h (by decide) (by decide) (by decide) (by decide)).trans h
theorem keep59_below {w w' : World} (k : Below w.heap.size w w') : Keep59 w w' := (keepT_below k).k59
theorem Keep59.trans {a b c : World} (h : Keep59 a b) (k : Keep59 b c) : Keep59 a c := fun i cs hi => k i cs (h i cs hi)
theorem KeepL.k59 {w w' : World} {S : List Nat} (k : KeepL w w' S) (hs : ∀ b, b ∈ S → ∃ cs t, w.heap[b]? = some (.cells cs t (0, 0)) ∧ t ≠ 59) : Keep59 w w' := fun b cs h => by
  refine (k.block b (Array.getElem?_eq_some_iff.1 h).1 fun hc => ?_).trans h
  obtain ⟨cs', t, h1, h2⟩ := hs b hc
  rw [h] at h1
  injection h1 with h1
  injection h1 with _ h1
  exact h2 h1.symm
theorem RW.typs {w : World} {Z R : Nat} {g c : Nat → Nat} {n : Nat} {pr : Nat → Value} {pc : Nat → Int} {on : Nat → Bool} {st : Nat → Int} {h : Nat → Int} {aT : Option Addr} {cT gT : Nat} {told : List (Int × Int)} (s : RW w Z R g c n pr pc on st h aT cT gT told) {b : Nat} (hb : b ∈ [R, g 0, g 1, g 2, g 3, gT]) : ∃ cs t, w.heap[b]? = some (.cells cs t (0, 0)) ∧ t ≠ 59 := by
  obtain ⟨c0, h0⟩ := cells_of_row s.row
  obtain ⟨c1, h1⟩ := s.aP.typ
  obtain ⟨c2, h2⟩ := s.aA.typ
  obtain ⟨c3, h3⟩ := s.aO.typ
  obtain ⟨c4, h4⟩ := s.aS.typ
  simp only [List.mem_cons, List.not_mem_nil, or_false] at hb
  rcases hb with rfl | rfl | rfl | rfl | rfl | rfl
  · exact ⟨_, _, h0, by decide⟩
  · exact ⟨_, _, h1, by decide⟩
  · exact ⟨_, _, h2, by decide⟩
  · exact ⟨_, _, h3, by decide⟩
  · exact ⟨_, _, h4, by decide⟩
  · by_cases ha : aT = none
    · rw [s.gn ha]; exact ⟨_, _, h0, by decide⟩
    · obtain ⟨c5, h5⟩ := s.own_typ ha
      exact ⟨_, _, h5, by decide⟩
theorem CpuOk.stepV {w0 w : World} {Z K TB i : Nat} {v : Value} {on : Bool} {p : Value} {pc : Int} (h : CpuOk w0 w Z K TB i v on p pc) : StepV v (!on) := by
  rcases h with ⟨h1, h2⟩ | ⟨h1, L, a, c, k, _, _, _, _, h2, h3⟩
  · rw [h1, h2]; exact .nil
  · have := h3.stepV
    have he : (L.drop k).isEmpty = false := by
      cases hd : L.drop k with
      | nil => rw [List.drop_eq_nil_iff] at hd; omega
      | cons x r => rfl
    rw [he] at this
    rw [h1]
    exact this
/-- All together; CPU ex is under way. -/
structure PS (w0 w : World) (T B n : Nat) (nx : Nat → Value) (dn : Nat → Int) (Z K TB : Nat) (h : Lk.Hold) (a : Option Addr) (c g : Nat) (told : List (Int × Int)) (R : Nat) (rg rc : Nat → Nat) (pr : Nat → Value) (pc : Nat → Int) (on : Nat → Bool) (aT : Option Addr) (cT gT : Nat) (N ex : Nat) : Prop where
  sw : SW w0 w T B n nx dn Z K TB h a c g told
  rw : RW w w0.heap.size R rg rc n pr pc on dn h aT cT gT told
  cpu : ∀ i, i < n → i ≠ ex → CpuOk w0 w Z K TB i (nx i) (on i) (pr i) (pc i)
  steps : ∀ i, i < n → 0 ≤ dn i ∧ dn i ≤ (N : Int)
  tl : told.length ≤ N
  low : R < Z ∧ rg 0 < Z ∧ rg 1 < Z ∧ rg 2 < Z ∧ rg 3 < Z
  ne : gT ≠ g
  tT : ∃ cs, w.heap[T]? = some (.cells cs 24 (0, 0))
/-- The program's blocks are none of the document's. -/
structure Apart (w : World) (T B K TB g R : Nat) (rg : Nat → Nat) (aT : Option Addr) (gT : Nat) : Prop where
  tR : ∀ b, b ∈ [R, rg 0, rg 1, rg 2, rg 3] → b ≠ T ∧ b ≠ B ∧ b ≠ K ∧ b ≠ TB ∧ b ≠ g
  tG : gT ≠ T ∧ gT ≠ B ∧ gT ≠ K ∧ gT ≠ TB ∧ gT ≠ g
theorem apart_of {w0 w : World} {T B n : Nat} {nx : Nat → Value} {dn dn' : Nat → Int} {Z K TB : Nat} {h h' : Lk.Hold} {a : Option Addr} {c g : Nat} {told told' : List (Int × Int)} {ZR R : Nat} {rg rc : Nat → Nat} {pr : Nat → Value} {pc : Nat → Int} {on : Nat → Bool} {aT : Option Addr} {cT gT : Nat}
    (sw : SW w0 w T B n nx dn Z K TB h a c g told) (rw : RW w ZR R rg rc n pr pc on dn' h' aT cT gT told') (tT : ∃ cs, w.heap[T]? = some (.cells cs 24 (0, 0))) (hne : gT ≠ g) : Apart w T B K TB g R rg aT gT := by
  obtain ⟨tB, tK, tTB, tg⟩ := sw.typ
  have key : ∀ b t, (∃ cs, w.heap[b]? = some (.cells cs t (0, 0))) → t ≠ 24 → t ≠ 68 → t ≠ 71 → t ≠ 42 → t ≠ 51 → b ≠ T ∧ b ≠ B ∧ b ≠ K ∧ b ≠ TB ∧ b ≠ g := fun b t hb h0 h1 h2 h3 h4 =>
    ⟨ne_typ hb tT h0, ne_typ hb tB h1, ne_typ hb tK h2, ne_typ hb tTB h3, by
      rcases tg with tg | tg
      · exact ne_typ hb tg h4
      · rw [tg]; exact ne_typ hb tTB h3⟩
  have kR := key _ 63 (cells_of_row rw.row) (by decide) (by decide) (by decide) (by decide) (by decide)
  refine ⟨fun b hb => ?_, ?_⟩
  · simp only [List.mem_cons, List.not_mem_nil, or_false] at hb
    rcases hb with rfl | rfl | rfl | rfl | rfl
    · exact kR
    · exact key _ 44 rw.aP.typ (by decide) (by decide) (by decide) (by decide) (by decide)
    · exact key _ 3 rw.aA.typ (by decide) (by decide) (by decide) (by decide) (by decide)
    · exact key _ 4 rw.aO.typ (by decide) (by decide) (by decide) (by decide) (by decide)
    · exact key _ 3 rw.aS.typ (by decide) (by decide) (by decide) (by decide) (by decide)
  · by_cases ha : aT = none
    · rw [rw.gn ha]; exact kR
    · have o := rw.own_typ ha
      exact ⟨ne_typ o tT (by decide), ne_typ o tB (by decide), ne_typ o tK (by decide), ne_typ o tTB (by decide), hne⟩
/-- The document's stores leave the program's blocks. -/
theorem SW.refKeep {w0 w w' : World} {T B n : Nat} {nx : Nat → Value} {dn : Nat → Int} {Z K TB : Nat} {h : Lk.Hold} {a : Option Addr} {c g : Nat} {told : List (Int × Int)} {R : Nat} {rg : Nat → Nat} {aT : Option Addr} {gT : Nat}
    (sw : SW w0 w T B n nx dn Z K TB h a c g told) (ap : Apart w T B K TB g R rg aT gT) {S : List Nat} (k : KeepL w w' S) (hS : ∀ b, b ∈ S → b ∈ [R, rg 0, rg 1, rg 2, rg 3, gT]) (hlo : ∀ b, b ∈ S → w0.heap.size ≤ b) : SW w0 w' T B n nx dn Z K TB h a c g told := by
  have hb : ∀ b, b ∈ S → b ≠ T ∧ b ≠ B ∧ b ≠ K ∧ b ≠ TB ∧ b ≠ g := fun b hb => by
    have h1 := hS b hb
    by_cases hg : b = gT
    · rw [hg]; exact ap.tG
    · refine ap.tR b ?_
      simp only [List.mem_cons, List.not_mem_nil, or_false] at h1 ⊢
      omega
  exact sw.keepL k ⟨fun hc => (hb _ hc).1 rfl, fun hc => (hb _ hc).2.1 rfl, fun hc => (hb _ hc).2.2.1 rfl, fun hc => (hb _ hc).2.2.2.1 rfl⟩ (fun _ hc => (hb _ hc).2.2.2.2 rfl) hlo
section
variable {w0 w w' : World} {T B n : Nat} {nx : Nat → Value} {dn : Nat → Int} {Z K TB : Nat} {h : Lk.Hold} {a : Option Addr} {c g : Nat} {told : List (Int × Int)} {R : Nat} {rg rc : Nat → Nat} {pr : Nat → Value} {pc : Nat → Int} {on : Nat → Bool} {aT : Option Addr} {cT gT N ex : Nat}
theorem PS.apart (s : PS w0 w T B n nx dn Z K TB h a c g told R rg rc pr pc on aT cT gT N ex) : Apart w T B K TB g R rg aT gT := apart_of s.sw s.rw s.tT s.ne
theorem PS.ltT (s : PS w0 w T B n nx dn Z K TB h a c g told R rg rc pr pc on aT cT gT N ex) : T < w.heap.size := s.sw.tt.lt
theorem tT_keep {S : List Nat} (h : ∃ cs, w.heap[T]? = some (.cells cs 24 (0, 0))) (k : KeepL w w' S) (hS : T ∉ S) : ∃ cs, w'.heap[T]? = some (.cells cs 24 (0, 0)) := by
  obtain ⟨cs, h⟩ := h
  exact ⟨cs, (k.block T (Array.getElem?_eq_some_iff.1 h).1 hS).trans h⟩
theorem PS.below (s : PS w0 w T B n nx dn Z K TB h a c g told R rg rc pr pc on aT cT gT N ex) (k : Below w.heap.size w w') : PS w0 w' T B n nx dn Z K TB h a c g told R rg rc pr pc on aT cT gT N ex :=
  ⟨s.sw.below k, s.rw.below k, fun i hi he => (s.cpu i hi he).keep (keepT_below k).keepZ, s.steps, s.tl, s.low, s.ne, tT_keep s.tT (keepL_below k []) (by simp)⟩
theorem PS.drewN (s : PS w0 w T B n nx dn Z K TB h a c g told R rg rc pr pc on aT cT gT N ex) (m : Nat) : PS w0 (w.drewN m) T B n nx dn Z K TB h a c g told R rg rc pr pc on aT cT gT N ex := s.below (below_drewN (Below.refl _ _) m)
theorem PS.more (s : PS w0 w T B n nx dn Z K TB h a c g told R rg rc pr pc on aT cT gT N ex) {M : Nat} (hM : N ≤ M) : PS w0 w T B n nx dn Z K TB h a c g told R rg rc pr pc on aT cT gT M ex :=
  ⟨s.sw, s.rw, s.cpu, fun i hi => by have := s.steps i hi; omega, Nat.le_trans s.tl hM, s.low, s.ne, s.tT⟩
theorem PS.gTlt (s : PS w0 w T B n nx dn Z K TB h a c g told R rg rc pr pc on aT cT gT N ex) : gT < w.heap.size ∧ w0.heap.size ≤ gT := by
  by_cases ha : aT = none
  · rw [s.rw.gn ha]; exact ⟨s.rw.row.lt, s.rw.lo.1⟩
  · obtain ⟨ad, rfl⟩ : ∃ ad, aT = some ad := by cases aT with | none => exact absurd rfl ha | some ad => exact ⟨ad, rfl⟩
    have := s.rw.own.blk ad rfl
    exact ⟨this.2.2, this.2.1⟩
/-- The document's rows turned: a program begins on CPU k. -/
theorem PS.begun (s : PS w0 w T B n nx dn Z K TB h a c g told R rg rc pr pc on aT cT gT N n) {k : Nat} {pr' : Nat → Value} {pc' : Nat → Int} {on' : Nat → Bool} (kp : KeepL w w' [rg 0, rg 1, rg 2]) (rw' : RW w' w0.heap.size R rg rc n pr' pc' on' dn h aT cT gT told)
    (he : ∀ i, i ≠ k → pr' i = pr i ∧ pc' i = pc i ∧ on' i = on i) : PS w0 w' T B n nx dn Z K TB h a c g told R rg rc pr' pc' on' aT cT gT N k ∧ Keep59 w w' := by
  have ap := s.apart
  have lo := s.rw.lo
  have low := s.low
  have sw' := s.sw.refKeep ap kp (by simp) (by simp; omega)
  have kz : KeepZ Z w w' := kp.keepZ (fun b hb => by simp only [List.mem_cons, List.not_mem_nil, or_false] at hb; left; omega)
  refine ⟨⟨sw', rw', fun i hi hik => ?_, s.steps, s.tl, s.low, s.ne, tT_keep s.tT kp ?_⟩, kp.k59 fun b hb => s.rw.typs (by simp only [List.mem_cons, List.not_mem_nil, or_false] at hb ⊢; omega)⟩
  · obtain ⟨h1, h2, h3⟩ := he i hik
    rw [h1, h2, h3]
    exact (s.cpu i hi (by omega)).keep kz
  · have h0 := (ap.tR (rg 0) (by simp)).1
    have h1 := (ap.tR (rg 1) (by simp)).1
    have h2 := (ap.tR (rg 2) (by simp)).1
    simp only [List.mem_cons, List.not_mem_nil, or_false]
    omega
/-- The program of CPU k lies in its slot. -/
theorem PS.started (s : PS w0 w T B n nx dn Z K TB h a c g told R rg rc pr pc on aT cT gT N ex) {k : Nat} (hk : k < n) (hex : ex = k) {v : Value} (hok : CpuOk w0 w Z K TB k v (on k) (pr k) (pc k)) :
    PS w0 (w.setCell ⟨B, k * 2, none⟩ v) T B n (upV nx k v) dn Z K TB h a c g told R rg rc pr pc on aT cT gT N n ∧ Keep59 w (w.setCell ⟨B, k * 2, none⟩ v) := by
  have ap := s.apart
  obtain ⟨sw', kt⟩ := s.sw.slot (s.sw.tt.setN k v)
  have kl : KeepL w (w.setCell ⟨B, k * 2, none⟩ v) [B] := keepL_set w B _ _ (by simp)
  have hr := fun b hb => (ap.tR b hb).2.1
  refine ⟨⟨sw', s.rw.keep kl ⟨?_, ?_, ?_, ?_, ?_⟩ (fun _ => ?_), fun i hi _ => ?_, s.steps, s.tl, s.low, s.ne, tT_keep s.tT kl ?_⟩, kt.k59⟩
  · simpa using hr R (by simp)
  · simpa using hr (rg 0) (by simp)
  · simpa using hr (rg 1) (by simp)
  · simpa using hr (rg 2) (by simp)
  · simpa using hr (rg 3) (by simp)
  · simpa using ap.tG.2.1
  · unfold upV
    by_cases e : i = k
    · subst e; rw [if_pos rfl]; exact hok.keep kt.keepZ
    · rw [if_neg e]; exact (s.cpu i hi (by omega)).keep kt.keepZ
  · simpa using ne_typ s.tT s.sw.typ.1 (by decide)
end
/-- The program has done a step on CPU k, the document has not. -/
structure Mid (w0 w : World) (T B n : Nat) (nx : Nat → Value) (dn dn' : Nat → Int) (Z K TB : Nat) (h h' : Lk.Hold) (a : Option Addr) (c g : Nat) (told told' : List (Int × Int)) (R : Nat) (rg rc : Nat → Nat) (pr : Nat → Value) (pc : Nat → Int) (on : Nat → Bool) (aT : Option Addr) (cT gT : Nat) (N ex : Nat) : Prop where
  sw : SW w0 w T B n nx dn' Z K TB h' a c g told'
  rw : RW w w0.heap.size R rg rc n pr pc on dn h aT cT gT told
  cpu : ∀ i, i < n → i ≠ ex → CpuOk w0 w Z K TB i (nx i) (on i) (pr i) (pc i)
  steps : ∀ i, i < n → 0 ≤ dn i ∧ dn i ≤ (N : Int)
  tl : told.length ≤ N
  low : R < Z ∧ rg 0 < Z ∧ rg 1 < Z ∧ rg 2 < Z ∧ rg 3 < Z
  ne : gT ≠ g
  tT : ∃ cs, w.heap[T]? = some (.cells cs 24 (0, 0))
section
variable {w0 w w' : World} {T B n : Nat} {nx : Nat → Value} {dn : Nat → Int} {Z K TB : Nat} {h : Lk.Hold} {a : Option Addr} {c g : Nat} {told : List (Int × Int)} {R : Nat} {rg rc : Nat → Nat} {pr : Nat → Value} {pc : Nat → Int} {on : Nat → Bool} {aT : Option Addr} {cT gT N ex : Nat}
theorem stepF_more (who : Int) (h : Lk.Hold) (x : Int × Int) : (stepF who h x).2.2.length ≤ 1 := by
  unfold stepF
  split
  · simp
  · split
    · simp
    · dsimp only
      split <;> simp
/-- A Run of a busy CPU. -/
theorem PS.run (s : PS w0 w T B n nx dn Z K TB h a c g told R rg rc pr pc on aT cT gT N n) {k : Nat} (hk : k < n) (hon : on k = true) (hN : N ≤ 100000) :
    ∃ (L : List (Int × Int)) (a0 : Option Addr) (c0 i : Nat) (x : Int × Int), pr k = .slice a0 L.length c0 ∧ ActsR w0 a0 L ∧ tameL L ∧ pc k = (i : Int) ∧ L[i]? = some x ∧
      ∀ f, Calls Try.prog 8 #[ptr T, .int .i64 (k : Int), .bool f] w fun e w' => e = .returned (.tuple #[.bool (restF (stepF (k : Int) h x).1 x (L.drop (i + 1))).isEmpty, .int .i64 0]) ∧
        ∃ v2 a' c' g', Mid w0 w' T B n (upV nx k v2) dn (upI dn k (dn k + 1)) Z K TB h (stepF (k : Int) h x).2.1 a' c' g' told (told ++ (stepF (k : Int) h x).2.2) R rg rc pr pc on aT cT gT N k ∧ PBx Z w' K TB (k : Int) v2 (restF (stepF (k : Int) h x).1 x (L.drop (i + 1))) ∧ Keep59 w w' := by
  have ap := s.apart
  rcases s.cpu k hk (by omega) with ⟨h1, _⟩ | ⟨_, L, a0, c0, i, h1, h2, h3, h4, h5, h6⟩
  · rw [hon] at h1; cases h1
  obtain ⟨x, hx⟩ : ∃ x, L[i]? = some x := ⟨_, List.getElem?_eq_getElem h5⟩
  have hdrop : L.drop i = x :: L.drop (i + 1) := by
    rw [List.drop_eq_getElem_cons h5]
    congr 1
    rw [List.getElem?_eq_getElem h5] at hx
    exact Option.some.inj hx
  rw [hdrop] at h6
  have hst := s.steps k hk
  have htl := s.tl
  refine ⟨L, a0, c0, i, x, h1, h2, h3, h4, hx, fun f => (run_x s.sw k hk f (by have := s.rw.n16; omega) h6 hst.1 (by omega) (by omega)).mono ?_⟩
  rintro e w' ⟨v2, a', c', g', rfl, sw', kt, hp, hg, kl⟩
  have hr := ap.tR
  have kR : ∀ b, b ∈ [R, rg 0, rg 1, rg 2, rg 3] → b ∉ [B, K, TB, g] := fun b hb => by
    have := hr b hb
    simp only [List.mem_cons, List.not_mem_nil, or_false]
    omega
  refine ⟨rfl, v2, a', c', g', ⟨sw', s.rw.keep kl ⟨kR _ (by simp), kR _ (by simp), kR _ (by simp), kR _ (by simp), kR _ (by simp)⟩ (fun _ => ?_), fun i hi hik => ?_, s.steps, s.tl, s.low, ?_, tT_keep s.tT kl ?_⟩, hp, kt.k59⟩
  · have := ap.tG
    simp only [List.mem_cons, List.not_mem_nil, or_false]
    omega
  · unfold upV
    rw [if_neg hik]
    exact (s.cpu i hi (by omega)).keep kt.keepZ
  · have := s.gTlt
    rcases hg with h | h
    · rw [h]; exact s.ne
    · omega
  · obtain ⟨tB, tK, tTB, tg⟩ := s.sw.typ
    have q1 := ne_typ s.tT tB (by decide)
    have q2 := ne_typ s.tT tK (by decide)
    have q3 := ne_typ s.tT tTB (by decide)
    have q4 : T ≠ g := by
      rcases tg with tg | tg
      · exact ne_typ s.tT tg (by decide)
      · rw [tg]; exact q3
    simp only [List.mem_cons, List.not_mem_nil, or_false]
    omega
theorem Mid.below {dn' : Nat → Int} {h' : Lk.Hold} {told' : List (Int × Int)} (s : Mid w0 w T B n nx dn dn' Z K TB h h' a c g told told' R rg rc pr pc on aT cT gT N ex) (k : Below w.heap.size w w') : Mid w0 w' T B n nx dn dn' Z K TB h h' a c g told told' R rg rc pr pc on aT cT gT N ex :=
  ⟨s.sw.below k, s.rw.below k, fun i hi he => (s.cpu i hi he).keep (keepT_below k).keepZ, s.steps, s.tl, s.low, s.ne, tT_keep s.tT (keepL_below k []) (by simp)⟩
/-- The document's step behind it. -/
theorem Mid.step {dn' : Nat → Int} {h' : Lk.Hold} {told' : List (Int × Int)} {k : Nat} (s : Mid w0 w T B n nx dn dn' Z K TB h h' a c g told told' R rg rc pr pc on aT cT gT N k) (hk : k < n) (hon : on k = true) (hh : Lk.OkH h) (hN : N ≤ 100000)
    {L : List (Int × Int)} {a0 : Option Addr} {c0 i : Nat} {x : Int × Int} (hpr : pr k = .slice a0 L.length c0) (hac : ActsR w0 a0 L) (htm : tameL L) (hpc : pc k = (i : Int)) (hx : L[i]? = some x)
    (hdn : dn' = upI dn k (dn k + 1)) (hh' : h' = (stepF (k : Int) h x).2.1) (htold : told' = told ++ (stepF (k : Int) h x).2.2) (hp : PBx Z w K TB (k : Int) (nx k) (restF (stepF (k : Int) h x).1 x (L.drop (i + 1)))) :
    Calls Try.prog 19 #[ptr R, .int .i64 (k : Int)] w fun e w' => e = .returned (.bool (restF (stepF (k : Int) h x).1 x (L.drop (i + 1))).isEmpty) ∧
      ∃ pc' on' aT' cT' gT', PS w0 w' T B n nx dn' Z K TB h' a c g told' R rg rc pr pc' on' aT' cT' gT' (N + 1) n ∧ Keep59 w w' := by
  have hst := s.steps k hk
  have htl := s.tl
  have ap := apart_of s.sw s.rw s.tT s.ne
  have lo := s.rw.lo
  have low := s.low
  have hgT : gT < w.heap.size ∧ w0.heap.size ≤ gT := by
    by_cases ha : aT = none
    · rw [s.rw.gn ha]; exact ⟨s.rw.row.lt, s.rw.lo.1⟩
    · obtain ⟨ad, rfl⟩ : ∃ ad, aT = some ad := by cases aT with | none => exact absurd rfl ha | some ad => exact ⟨ad, rfl⟩
      have := s.rw.own.blk ad rfl
      exact ⟨this.2.2, this.2.1⟩
  refine (ref_step s.rw k hk hpr (hac.below (s.sw.bl)) htm.1 hpc hx (htm.2 i x hx) ⟨hst.1, by omega⟩ (by omega) hh).mono ?_
  rintro e w' ⟨rfl, aT', cT', gT', rw', hg, kl⟩
  have hlo : ∀ b, b ∈ [R, rg 1, rg 2, rg 3, gT] → w0.heap.size ≤ b := fun b hb => by
    simp only [List.mem_cons, List.not_mem_nil, or_false] at hb
    omega
  have sw' := s.sw.refKeep ap kl (fun b hb => by simp only [List.mem_cons, List.not_mem_nil, or_false] at hb ⊢; omega) hlo
  have kz : KeepZ Z w w' := kl.keepZ (fun b hb => by
    by_cases ha : aT = none
    · left
      have := s.rw.gn ha
      simp only [List.mem_cons, List.not_mem_nil, or_false] at hb
      omega
    · by_cases hbg : b = gT
      · right
        obtain ⟨cs, hcs⟩ := s.rw.own_typ ha
        exact ⟨cs, 51, by rw [hbg]; exact hcs, by simp⟩
      · left
        simp only [List.mem_cons, List.not_mem_nil, or_false] at hb
        omega)
  rw [hh', htold, hdn] at sw'
  rw [hh', htold, hdn]
  refine ⟨rfl, _, _, aT', cT', gT', ⟨sw', rw', fun j hj _ => ?_, fun j hj => ?_, ?_, s.low, ?_, tT_keep s.tT kl ?_⟩, kl.k59 fun b hb => s.rw.typs (by simp only [List.mem_cons, List.not_mem_nil, or_false] at hb ⊢; omega)⟩
  · by_cases hjk : j = k
    · subst hjk
      have hp' := hp.keep kz
      by_cases hov : (restF (stepF (j : Int) h x).1 x (L.drop (i + 1))).isEmpty = true
      · left
        rw [if_pos hov]
        rw [List.isEmpty_iff.1 hov] at hp'
        exact ⟨by unfold upB; rw [if_pos rfl], hp'⟩
      · right
        rw [if_neg hov]
        refine ⟨hon, L, a0, c0, if (stepF (j : Int) h x).1 = 1 then i else i + 1, hpr, hac, htm, ?_, ?_, ?_⟩
        · unfold upI; rw [if_pos rfl]; split <;> rfl
        · have hiL := (List.getElem?_eq_some_iff.1 hx).1
          by_cases h1 : (stepF (j : Int) h x).1 = 1
          · rw [if_pos h1]; exact hiL
          · rw [if_neg h1]
            unfold restF at hov
            rw [if_neg h1] at hov
            split at hov
            · simp at hov
            · have : L.drop (i + 1) ≠ [] := by simpa using hov
              apply Classical.byContradiction
              intro hc
              exact this (List.drop_eq_nil_of_le (by omega))
        · have hiL := (List.getElem?_eq_some_iff.1 hx).1
          have hdrop : L.drop i = x :: L.drop (i + 1) := by
            rw [List.drop_eq_getElem_cons hiL]
            congr 1
            rw [List.getElem?_eq_getElem hiL] at hx
            exact Option.some.inj hx
          by_cases h1 : (stepF (j : Int) h x).1 = 1
          · rw [if_pos h1, hdrop]
            unfold restF at hp'
            rw [if_neg (by omega), if_pos h1] at hp'
            exact hp'
          · rw [if_neg h1]
            unfold restF at hp' hov
            rw [if_neg h1] at hp' hov
            split at hov
            · simp at hov
            · rename_i h0
              rw [if_neg h0] at hp'
              exact hp'
    · have hc := (s.cpu j hj hjk).keep kz
      have e1 : upI pc k (if (stepF (k : Int) h x).1 = 1 then (i : Int) else ((i + 1 : Nat) : Int)) j = pc j := by unfold upI; rw [if_neg hjk]
      have e2 : (if (restF (stepF (k : Int) h x).1 x (L.drop (i + 1))).isEmpty = true then upB on k false else on) j = on j := by
        split
        · unfold upB; rw [if_neg hjk]
        · rfl
      rw [e1, e2]
      exact hc
  · have := s.steps j hj
    unfold upI
    split
    · omega
    · omega
  · rw [List.length_append]
    have := stepF_more (k : Int) h x
    omega
  · have hgl := s.sw.lw.ltg
    rcases hg with h | h
    · rw [h]; exact s.ne
    · omega
  · have h0 := (ap.tR R (by simp)).1
    have h1 := (ap.tR (rg 1) (by simp)).1
    have h2 := (ap.tR (rg 2) (by simp)).1
    have h3 := (ap.tR (rg 3) (by simp)).1
    have h4 := ap.tG.1
    simp only [List.mem_cons, List.not_mem_nil, or_false]
    omega
end
/-- Some state of all. -/
def PX (w0 w : World) (T B n Z K TB R : Nat) (rg rc : Nat → Nat) (N : Nat) : Prop := ∃ nx dn h a c g told pr pc on aT cT gT, PS w0 w T B n nx dn Z K TB h a c g told R rg rc pr pc on aT cT gT N n
section
variable {w0 w w' : World} {T B n : Nat} {nx : Nat → Value} {dn : Nat → Int} {Z K TB : Nat} {h : Lk.Hold} {a : Option Addr} {c g : Nat} {told : List (Int × Int)} {R : Nat} {rg rc : Nat → Nat} {pr : Nat → Value} {pc : Nat → Int} {on : Nat → Bool} {aT : Option Addr} {cT gT N : Nat}
theorem PS.px (s : PS w0 w T B n nx dn Z K TB h a c g told R rg rc pr pc on aT cT gT N n) {M : Nat} (hM : N ≤ M) : PX w0 w T B n Z K TB R rg rc M := ⟨_, _, _, _, _, _, _, _, _, _, _, _, _, s.more hM⟩
theorem PS.cpu' (s : PS w0 w T B n nx dn Z K TB h a c g told R rg rc pr pc on aT cT gT N n) {k : Nat} (hk : k < n) : CpuOk w0 w Z K TB k (nx k) (on k) (pr k) (pc k) := s.cpu k hk (by omega)
theorem PS.busy (s : PS w0 w T B n nx dn Z K TB h a c g told R rg rc pr pc on aT cT gT N n) {k : Nat} (hk : k < n) {z : Bool} (hz : on k = z) : Calls Try.prog 10 #[ptr T, .int .i64 (k : Int)] w fun e w' => e = .returned (.bool z) ∧ w = w' := by
  have h := busy_ok s.sw.tt k hk (s.cpu' hk).stepV
  simp only [Bool.not_not, hz] at h
  exact h
theorem PS.stepsC (s : PS w0 w T B n nx dn Z K TB h a c g told R rg rc pr pc on aT cT gT N n) {k : Nat} (hk : k < n) : Calls Try.prog 11 #[ptr T, .int .i64 (k : Int)] w fun e w' => e = .returned (.int .i64 (dn k)) ∧ w = w' := steps_ok s.sw.tt k hk
theorem PS.idle (s : PS w0 w T B n nx dn Z K TB h a c g told R rg rc pr pc on aT cT gT N n) {k : Nat} (hk : k < n) (hz : on k = false) : nx k = .nilFunc := by
  rcases s.cpu' hk with ⟨_, h⟩ | ⟨h, _⟩
  · exact h
  · rw [hz] at h; cases h
theorem PS.fn (s : PS w0 w T B n nx dn Z K TB h a c g told R rg rc pr pc on aT cT gT N n) {k : Nat} (hk : k < n) (hz : on k = true) : ∃ x y z, nx k = .func x y z := by
  have h := (s.cpu' hk).stepV
  rw [hz] at h
  generalize nx k = v at h ⊢
  cases h with
  | fn x y z => exact ⟨x, y, z, rfl⟩
end
theorem PS.startedX {w0 w : World} {T B n : Nat} {nx : Nat → Value} {dn : Nat → Int} {Z K TB : Nat} {h : Lk.Hold} {a : Option Addr} {c g : Nat} {told : List (Int × Int)} {R : Nat} {rg rc : Nat → Nat} {pr : Nat → Value} {pc : Nat → Int} {on : Nat → Bool} {aT : Option Addr} {cT gT N : Nat} {k m pcap : Nat} {pa : Option Addr}
    (s : PS w0 w T B n nx dn Z K TB h a c g told R rg rc (upV pr k (.slice pa m pcap)) (upI pc k 0) (upB on k true) aT cT gT N k) (hk : k < n) {L : List (Int × Int)} (hac : ActsR w0 pa L) (htm : tameL L) (hm : m = L.length) (hpos : 0 < m) {v : Value} (hp : PBx Z w K TB (k : Int) v L) :
    PX w0 (w.setCell ⟨B, k * 2, none⟩ v) T B n Z K TB R rg rc N ∧ Keep59 w (w.setCell ⟨B, k * 2, none⟩ v) := by
  obtain ⟨s3, k3⟩ := s.started hk rfl (v := v) (.inr ⟨by unfold upB; rw [if_pos rfl], L, pa, pcap, 0, by unfold upV; rw [if_pos rfl, hm], hac, htm, by unfold upI; rw [if_pos rfl]; rfl, by rw [← hm]; exact hpos, hp⟩)
  exact ⟨s3.px (Nat.le_refl N), k3⟩
theorem PX.le {w0 w : World} {T B n Z K TB R : Nat} {rg rc : Nat → Nat} {N M : Nat} (h : PX w0 w T B n Z K TB R rg rc N) (hM : N ≤ M) : PX w0 w T B n Z K TB R rg rc M := by
  obtain ⟨nx, dn, h, a, c, g, told, pr, pc, on, aT, cT, gT, s⟩ := h
  exact s.px hM
/-- At the start. -/
theorem ps_start {w W2 : World} {n : Nat} (hn : 0 < n ∧ n ≤ 16) {hd : Nat → Int} {an : Nat → Option Addr} {ln cp gb : Nat → Nat} (s : NS (newW w n) W2 hd an ln cp gb) (hl : ∀ q, q < 4 → ln q = n) (hh : ∀ k, k < 8 → hd k = -1) :
    PS w ((W2.alloc (.cells (Lk.newCells 8) 71)).alloc (.cells #[.slice none 0 0] 42)) (w.heap.size + 1) w.heap.size n (fun _ => .nilFunc) (fun _ => 0) (W2.heap.size + 2) W2.heap.size (W2.heap.size + 1) Lk.free none 0 (W2.heap.size + 1) []
      (newW w n).heap.size gb cp (fun _ => .slice none 0 0) (fun _ => 0) (fun _ => false) none 0 (newW w n).heap.size 0 n := by
  have hs : (newW w n).heap.size = w.heap.size + 2 := by unfold newW; simp
  have b1 := below_newW w n
  have t1 := tt_new w n hn.2
  have b2 : Below (newW w n).heap.size (newW w n) W2 := s.bl
  have b3 := below_new W2 (.cells (Lk.newCells 8) 71)
  have b4 := below_new (W2.alloc (.cells (Lk.newCells 8) 71)) (.cells #[.slice none 0 0] 42)
  have bA := below_then b1 b2
  have bB := below_then b3 b4
  have k2 := Lk.tab_new W2 8 (by decide)
  have tb := Boxed.new (W2.alloc (.cells (Lk.newCells 8) 71)) 42 (.slice none 0 0)
  rw [size1] at tb
  have r := rw_new s hl hn
  have hsz : w.heap.size + 2 ≤ W2.heap.size := by have := b2.size; omega
  have hR := r.row.lt
  have lo := r.lo
  have tw : ∃ cs, (newW w n).heap[w.heap.size + 1]? = some (.cells cs 24 (0, 0)) := by
    refine ⟨#[.slice (some ⟨w.heap.size, 0, none⟩) n n], ?_⟩
    unfold newW
    have := World.alloc_heap_new (w.alloc (.cells (newCells n) 68)) (.cells #[.slice (some ⟨w.heap.size, 0, none⟩) n n] 24)
    rw [size1] at this
    exact this
  have r2 : RW W2 w.heap.size (newW w n).heap.size gb cp n (fun _ => .slice none 0 0) (fun _ => 0) (fun _ => false) (fun _ => 0) Lk.free none 0 (newW w n).heap.size [] :=
    ⟨r.row.congr fun j hj => by
      unfold refF
      split; rfl
      split; rfl
      split; rfl
      split; rfl
      split; rfl
      rw [hh (j - 3) (by omega)]; rfl, r.aP, r.aA, r.aO, r.aS, ⟨World.ownsRow_nil _ _ _ _, fun h => absurd h (Nat.lt_irrefl _), fun b hb => by cases hb⟩, fun _ => rfl, r.ne, hn, by omega, by omega⟩
  have l0 := r.aP.lt
  have l1 := r.aA.lt
  have l2 := r.aO.lt
  have l3 := r.aS.lt
  refine ⟨⟨?_, ⟨⟨rowIs_below k2.row b4, k2.le, k2.ok⟩, tb, ⟨World.ownsRow_nil _ _ _ _, fun h => absurd h (Nat.lt_irrefl _), fun b hb => by cases hb⟩, fun _ => rfl⟩, below_then bA bB, ⟨by omega, Nat.le_refl _, by omega, by omega⟩, ⟨by omega, by omega, by omega, by omega⟩, ⟨by omega, by omega, by omega, by omega⟩, by rw [size1, size1]; omega⟩, r2.below bB, fun i _ _ => .inl ⟨rfl, rfl⟩, fun i _ => ⟨Int.le_refl _, Int.le_refl _⟩, Nat.le_refl _, ⟨by omega, by omega, by omega, by omega, by omega⟩, by omega, ?_⟩
  · have t2 := t1.of_blocks (b2.block _ t1.lt) (b2.block _ t1.ltB)
    exact t2.of_blocks (bB.block _ t2.lt) (bB.block _ t2.ltB)
  · exact tT_keep (tT_keep tw (keepL_below b2 []) (by simp)) (keepL_below bB []) (by simp)
theorem eq51 (a b : Int) (w : World) : (Op.equalIn 10000 51 (.agg #[.int .i64 a, .int .i64 b]) (.agg #[.int .i64 a, .int .i64 b])).run Try.prog w = .ok true w := by
  have u3 := Try.underlying3
  rw [show (10000 : Nat) = 9999 + 1 from rfl, Op.equalIn]
  simp only [Sem.run_bind, run_underlying Try.underlying51, Result.andThen_ok]
  simp only [Std.Legacy.Range.forIn_eq_forIn_range', Std.Legacy.Range.size, Nat.sub_zero, Nat.add_sub_cancel, Nat.div_one, List.range'_succ, List.range'_zero, List.forIn_cons, List.forIn_nil]
  go_simp
end Go.Proofs.Ytjobdncikpnojaa
