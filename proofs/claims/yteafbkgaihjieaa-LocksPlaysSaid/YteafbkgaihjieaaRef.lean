/-
  The document's table in memory beside the table, and the walks of its methods.
-/
import Derived.Test.YteafbkgaihjieaaOwn
import Derived.Test.YteafbkgaihjieaaRefP
import Derived.Test.YteafbkgaihjieaaHeld
import Derived.Deep.RegionLaw
namespace Go.Proofs.Yteafbkgaihjieaa
open Go.RowKit

/-- The table at b, held as h says; the document's at R: n, and a slice v. -/
structure PB (w0 w : World) (b n : Nat) (h : Hold) (R : Nat) (v : Value) : Prop where
  st : St w0 w b n h
  row : w.rowIs R 47 2 (fun i => if i = 0 then .int .i64 (n : Int) else v)
  ownR : w0.heap.size ≤ R
/-- .. which holds the list l. -/
structure PSt (w0 w : World) (b n : Nat) (h : Hold) (R : Nat) (l : L2) (a : Option Addr) (c g : Nat) : Prop where
  pb : PB w0 w b n h R (.slice a l.length c)
  own : OwnAt w w0.heap.size 54 2 a l.length c g (cells2 l)
section
variable {w0 w w' : World} {b n R c g : Nat} {h : Hold} {l : L2} {a : Option Addr} {v : Value}
theorem PB.c0 (s : PB w0 w b n h R v) : w.cell? ⟨R, 0, none⟩ = some (.int .i64 (n : Int)) := s.row.cell (i := 0) (by omega)
theorem PB.c1 (s : PB w0 w b n h R v) : w.cell? ⟨R, 1, none⟩ = some v := s.row.cell (i := 1) (by omega)
theorem PB.neb (s : PB w0 w b n h R v) : R ≠ b := rowIs_ne s.row s.st.tab.row (by decide)
theorem PB.of_blocks (s : PB w0 w b n h R v) (k : Below w0.heap.size w0 w') (hb : w'.heap[b]? = w.heap[b]?) (hR : w'.heap[R]? = w.heap[R]?) : PB w0 w' b n h R v :=
  ⟨⟨⟨s.st.tab.row.of_block hb, s.st.tab.le, s.st.tab.ok⟩, k, s.st.own⟩, s.row.of_block hR, s.ownR⟩
theorem PB.below (s : PB w0 w b n h R v) (k : Below w.heap.size w w') : PB w0 w' b n h R v :=
  s.of_blocks (below_then s.st.below k) (k.block b s.st.tab.lt) (k.block R s.row.lt)
/-- The document's slice is another one. -/
theorem PB.store (s : PB w0 w b n h R v) (u : Value) : PB w0 (w.setCell ⟨R, 1, none⟩ u) b n h R u :=
  ⟨⟨⟨s.st.tab.row.setOther (a := ⟨R, 1, none⟩) s.neb.symm u, s.st.tab.le, s.st.tab.ok⟩, s.st.below.setCell (p := ⟨R, 1, none⟩) s.ownR u, s.st.own⟩,
    (s.row.set 1 u).congr (fun i hi => by
      by_cases e : i = 1
      · subst e; rfl
      · have : i = 0 := by omega
        subst this; rfl), s.ownR⟩
theorem PSt.neg (s : PSt w0 w b n h R l a c g) : a ≠ none → g ≠ b := s.own.ne s.pb.st.tab.row (by decide)
theorem PSt.neR (s : PSt w0 w b n h R l a c g) : a ≠ none → g ≠ R := s.own.ne s.pb.row (by decide)
theorem PSt.below (s : PSt w0 w b n h R l a c g) (k : Below w.heap.size w w') : PSt w0 w' b n h R l a c g := ⟨s.pb.below k, s.own.below k⟩
/-- The table has turned. -/
theorem PSt.tabTo (s : PSt w0 w b n h R l a c g) {h' : Hold} (t : St w0 w' b n h') (k : Only w w' b) : PSt w0 w' b n h' R l a c g :=
  ⟨⟨t, rowIs_only s.pb.row k s.pb.neb, s.pb.ownR⟩, s.own.only k s.neg⟩
/-- Another block has turned. -/
theorem PSt.other (s : PSt w0 w b n h R l a c g) {d : Nat} (k : Only w w' d) (h0 : w0.heap.size ≤ d) (hb : b ≠ d) (hR : R ≠ d) (hg : a ≠ none → g ≠ d) : PSt w0 w' b n h R l a c g :=
  ⟨s.pb.of_blocks (below_only s.pb.st.below k h0) (k.block b s.pb.st.tab.lt (fun e => hb (by cases e; rfl))) (k.block R s.pb.row.lt (fun e => hR (by cases e; rfl))), s.own.only k hg⟩
/-- A new slice, that holds another list, is laid. -/
theorem PB.stored (s : PB w0 w b n h R v) {u : Value} {l' : L2} {k : Nat} (hk : k = l'.length) (o : w.ownsRow w0.heap.size 54 2 u k (cells2 l')) : ∃ a' c' g', PSt w0 (w.setCell ⟨R, 1, none⟩ u) b n h R l' a' c' g' := by
  subst hk
  obtain ⟨a', c', g', rfl, oa⟩ := own_at o
  refine ⟨a', c', g', s.store _, oa.of_block (by simp [World.setCell]) (fun ha => Below.heap_setCell _ _ _ _ (oa.ne s.row (by decide) ha))⟩
/-- The list has turned into l'. -/
def Doc (w0 : World) (b n : Nat) (h : Hold) (R : Nat) (a : Option Addr) (g : Nat) (w : World) (h' : Hold) (k : Nat) (w' : World) : Prop :=
  (∃ l a c g, PSt w0 w' b n h R l a c g ∧ RL n h' l ∧ l.length ≤ k) ∧ ∀ q, q < w.heap.size → q ≠ R → (a ≠ none → g ≠ q) → w'.heap[q]? = w.heap[q]?

theorem ref_new (n : Int) (w : World) :
    Calls Try.prog 18 #[.int .i64 n] w fun e w' => e = .returned (.pointer (some ⟨w.heap.size, 0, none⟩)) ∧ w' = w.alloc (.cells #[.int .i64 (clampN n : Int), .slice none 0 0] 47) := by
  by_cases h0 : n < 0
  · have e0 : clampN n = 0 := by unfold clampN; rw [if_pos h0]
    rw [e0]; clear e0
    go_enter Try.func18, Try.ntmps18
    go_wp2
    go_ret
    exact ⟨rfl, rfl⟩
  · by_cases h1 : 64 < n
    · have e0 : clampN n = 64 := by unfold clampN; rw [if_neg h0, if_pos h1]
      rw [e0]; clear e0
      go_enter Try.func18, Try.ntmps18
      go_wp2
      go_ret
      exact ⟨rfl, rfl⟩
    · obtain ⟨k, rfl⟩ := Int.eq_ofNat_of_zero_le (by omega : 0 ≤ n)
      have e0 : clampN k = k := by unfold clampN; rw [if_neg h0, if_neg h1]; simp
      rw [e0]; clear e0
      go_enter Try.func18, Try.ntmps18
      go_wp2
      go_ret
      exact ⟨rfl, rfl⟩

theorem PSt.cw (s : PSt w0 w b n h R l a c g) {i : Nat} {p : Int × Int} (hp : l[i]? = some p) : w.cell? ⟨g, i * 2, none⟩ = some (.int .i64 p.1) ∧ w.cell? ⟨g, i * 2 + 1, none⟩ = some (.int .i64 p.2) :=
  ⟨s.own.cell (cells2_at l i p hp).1, s.own.cell (cells2_at l i p hp).2⟩
theorem mem_at {l : L2} {i : Nat} (hi : i < l.length) : ∃ p, l[i]? = some p ∧ p ∈ l := ⟨l[i], List.getElem?_eq_getElem hi, List.getElem_mem hi⟩
theorem not_mem {l : L2} {q : Int × Int → Prop} (h : ∀ (i : Nat) (p : Int × Int), l[i]? = some p → ¬ q p) : ∀ p ∈ l, ¬ q p := fun p hp => by
  obtain ⟨i, hi⟩ := List.getElem?_of_mem hp
  exact h i p hi

theorem ref_holder {h2 : Hold} (s : PSt w0 w b n h R l a c g) (r : RL n h2 l) (ok : OkH h2) (lock : Int) :
    Calls Try.prog 22 #[.pointer (some ⟨R, 0, none⟩), .int .i64 lock] w fun e w' => e = .returned (.int .i64 (holderF n h2 lock)) ∧ w = w' := by
  have c1 := s.pb.c1
  have hm := s.own.le
  unfold maxLen at hm
  obtain ⟨m, hlen⟩ : ∃ m, l.length = m := ⟨_, rfl⟩
  rw [hlen] at hm c1
  have HL := Lib.hid hlen; clear hlen
  go_enter Try.func22, Try.ntmps22
  go_wp2_with fail
  go_loop [5] (fun i => ∃ k : Nat, k ≤ m ∧ i = .int .i64 k ∧ ∀ j p, j < k → l[j]? = some p → p.2 ≠ lock) (fun i => m - (intOf i).toNat)
  case atStart => exact ⟨0, Nat.zero_le _, rfl, fun j p hj => absurd hj (Nat.not_lt_zero j)⟩
  case round =>
    obtain ⟨k, hk, rfl, hne⟩ := hrel
    have Hne := Lib.hid hne; clear hne
    by_cases hlt : k < m
    · obtain ⟨p, hp, hpm⟩ := mem_at (l := l) (i := k) (by rw [HL.out]; exact hlt)
      obtain ⟨cw, cl⟩ := s.cw hp
      have Hp := Lib.hid hp; clear hp
      obtain rfl := s.own.at_ (by rw [HL.out]; omega)
      by_cases heq : p.2 = lock
      · have e0 := r.holder lock hpm heq
        have q : (p.2 == lock) = true := by rw [heq]; exact beq_self_eq_true _
        have E0 := Lib.hid e0
        clear heq e0
        go_wp2
        go_ret
        rw [E0.out]
        exact ⟨rfl, rfl⟩
      · have q : (p.2 == lock) = false := beq_eq_false_iff_ne.2 heq
        have HQ := Lib.hid heq; clear heq
        go_wp2
        go_round
        case rel => exact ⟨k + 1, by omega, by go_num, fun j p' hj hp' => by
          rcases Nat.lt_or_ge j k with hj' | hj'
          · exact Hne.out j p' hj' hp'
          · obtain rfl : j = k := by omega
            rw [Hp.out] at hp'
            cases hp'
            exact HQ.out⟩
        case measure => simp [intOf]; omega
    · obtain rfl : k = m := by omega
      have e0 : holderF n h2 lock = -1 := r.holder_none ok lock (not_mem (q := fun p => p.2 = lock) fun i p hi => Hne.out i p (by
        have := (List.getElem?_eq_some_iff.1 hi).1
        rw [← HL.out]; exact this) hi)
      have E0 := Lib.hid e0; clear e0
      go_wp2
      go_ret
      rw [E0.out]
      exact ⟨rfl, rfl⟩

theorem info54 : (Try.prog.info? 54).map (fun i => (i.zero, i.size, i.bytes)) = some (some (.agg #[.int .i64 0, .int .i64 0]), 2, 16) := by kernel_rfl

theorem ref_try {h2 : Hold} (s : PSt w0 w b n h R l a c g) (r : RL n h2 l) (ok : OkH h2) (hl : l.length ≤ 200) (who lock : Int) (hwho : who ≤ 9223372036854775807) :
    Calls Try.prog 19 #[.pointer (some ⟨R, 0, none⟩), .int .i64 who, .int .i64 lock] w fun e w' =>
      e = .returned (.tuple #[.bool (tryF n h2 who lock).1, .int .i64 (tryF n h2 who lock).2.1]) ∧ Doc w0 b n h R a g w (tryF n h2 who lock).2.2 (l.length + 1) w' := by
  have c0 := s.pb.c0
  have c1 := s.pb.c1
  have hn := s.pb.st.tab.le
  have same : Doc w0 b n h R a g w h2 (l.length + 1) w := ⟨⟨l, a, c, g, s, r, by omega⟩, fun _ _ _ _ => rfl⟩
  cases hb : bad n who lock with
  | true =>
    have e0 : tryF n h2 who lock = (false, 2, h2) := by unfold tryF; rw [hb]; rfl
    rw [e0]; clear e0
    rcases bad_true hb with h1 | ⟨h1, h2⟩ | ⟨h1, h2, h3⟩
    all_goals
      clear hb
      go_enter Try.func19, Try.ntmps19
      go_wp2_with fail
      go_ret2
      exact ⟨rfl, same⟩
  | false =>
    obtain ⟨h1, h2', h3⟩ := bad_false hb
    obtain ⟨L, rfl⟩ := Int.eq_ofNat_of_zero_le h2'
    obtain ⟨m, hlen⟩ : ∃ m, l.length = m := ⟨_, rfl⟩
    rw [hlen] at hl c1
    have HL := Lib.hid hlen; clear hlen
    have HS := Lib.hid same; clear same
    have HB := Lib.hid hb; clear hb
    go_enter Try.func19, Try.ntmps19
    go_wp2_with fail
    go_loop [8] (fun i => ∃ k : Nat, k ≤ m ∧ i = .int .i64 k ∧ ∀ j p, j < k → l[j]? = some p → ¬ (p.1 = who ∧ (L : Int) ≤ p.2)) (fun i => m - (intOf i).toNat)
    case atStart => exact ⟨0, Nat.zero_le _, rfl, fun j p hj => absurd hj (Nat.not_lt_zero j)⟩
    case round =>
      obtain ⟨k, hk, rfl, hne⟩ := hrel
      have Hne := Lib.hid hne; clear hne
      by_cases hlt : k < m
      · obtain ⟨p, hp, hpm⟩ := mem_at (l := l) (i := k) (by rw [HL.out]; exact hlt)
        obtain ⟨cw, cl⟩ := s.cw hp
        have Hp := Lib.hid hp; clear hp
        obtain rfl := s.own.at_ (by rw [HL.out]; omega)
        by_cases heq : p.1 = who
        · have q : (p.1 == who) = true := by rw [heq]; exact beq_self_eq_true _
          have HW := Lib.hid heq; clear heq
          by_cases hle : (L : Int) ≤ p.2
          · have e0 : tryF n h2 who L = (false, 50, h2) := by
              unfold tryF; rw [HB.out, (r.above h1 (L : Int).toNat).2 ⟨p, hpm, HW.out, hle⟩]; rfl
            have E0 := Lib.hid e0; clear e0
            go_wp2
            go_ret2
            rw [E0.out]
            exact ⟨rfl, HS.out⟩
          · go_wp2
            go_round
            case rel => exact ⟨k + 1, by omega, by go_num, fun j p' hj hp' => by
              rcases Nat.lt_or_ge j k with hj' | hj'
              · exact Hne.out j p' hj' hp'
              · obtain rfl : j = k := by omega
                rw [Hp.out] at hp'
                cases hp'
                exact fun hh => hle hh.2⟩
            case measure => simp [intOf]; omega
        · have q : (p.1 == who) = false := beq_eq_false_iff_ne.2 heq
          have HQ := Lib.hid heq; clear heq
          go_wp2
          go_round
          case rel => exact ⟨k + 1, by omega, by go_num, fun j p' hj hp' => by
            rcases Nat.lt_or_ge j k with hj' | hj'
            · exact Hne.out j p' hj' hp'
            · obtain rfl : j = k := by omega
              rw [Hp.out] at hp'
              cases hp'
              exact fun hh => HQ.out hh.1⟩
          case measure => simp [intOf]; omega
      · obtain rfl : k = m := by omega
        have hab : above n h2 who (L : Int).toNat = false := by
          rw [← Bool.not_eq_true, r.above h1]
          rintro ⟨p, hp, hq⟩
          refine not_mem (q := fun p => p.1 = who ∧ (L : Int) ≤ p.2) (fun i p hi => Hne.out i p (by
            have := (List.getElem?_eq_some_iff.1 hi).1
            rw [← HL.out]; exact this) hi) p hp hq
        have hk := ok L
        have eh : holderF n h2 (L : Int) = h2 L := holder_in (by omega)
        by_cases hf : h2 L = -1
        · have e0 : tryF n h2 who L = (true, 0, upd h2 L who) := by
            unfold tryF; rw [HB.out, hab]; simp [hf]
          have r' := r.push h1 hwho (by omega) hf
          obtain ⟨i0, hi, hz0, hz1, hz2⟩ := info_parts info54
          have E0 := Lib.hid e0; clear e0
          have EH := Lib.hid (eh.trans hf); clear eh hab hf
          have s' : PSt w0 (w.alloc (.cells #[.int .i64 who, .int .i64 (L : Int)] 54)) b n h R l a c g := s.below (below_new w _)
          have hrd := rd_new w #[.int .i64 who, .int .i64 (L : Int)] 54 2 1 rfl
          go_wp2_with (first
            | (go_at_call 22; refine (ref_holder s r ok (L : Int)).mono ?_; rintro e w' ⟨rfl, rfl⟩; rw [EH.out])
            | (at_builtin; refine wpList_append_rd _ rfl (.tmp 62) (.tmp 66) 45 rfl w0.heap.size 54 i0 _ 2 16 Try.underlying45 hi hz0 hz1 hz2 rfl (by omega) (.slice a k c) k (cells2 l) rfl (by have := s'.own.own; rwa [HL.out] at this) (some ⟨w.heap.size, 0, none⟩) 1 1 _ rfl hrd (by simp [Value.oneCell']) (by unfold maxLen; omega) (by omega) s'.pb.st.below.size ?_))
          intro v1 w1 hown hgrow hat hnil
          rw [← HL.out] at hgrow
          have pb1 : PB w0 w1 b n h R (.slice a l.length c) := s'.pb.of_blocks (s'.own.grown_below hgrow s'.pb.st.below s'.pb.st.below.size (Nat.le_refl _)) (s'.own.grown_other hgrow s'.pb.st.tab.lt s'.neg) (s'.own.grown_other hgrow s'.pb.row.lt s'.neR)
          have c1' := pb1.c1
          have fz := pb1.row.frozen 1
          have e2 : cells2 l ++ [.int .i64 who, .int .i64 (L : Int)] = cells2 (l ++ [(who, (L : Int))]) := by rw [cells2_append]; rfl
          obtain ⟨a', c', g', s2⟩ := pb1.stored (u := v1) (l' := l ++ [(who, (L : Int))]) (k := k + 1) (by rw [List.length_append, HL.out]; rfl) (by rw [← e2]; exact hown)
          have H2 := Lib.hid s2
          have HF := Lib.hid (fun (q : Nat) (hq : q < w.heap.size) (hR : q ≠ R) (hg : a ≠ none → g ≠ q) => show (w1.setCell ⟨R, 1, none⟩ v1).heap[q]? = w.heap[q]? from
            (Below.heap_setCell w1 ⟨R, 1, none⟩ _ q hR).trans ((s'.own.grown_other hgrow (Nat.lt_of_lt_of_le hq (below_new w _).size) hg).trans ((below_new w (.cells #[.int .i64 who, .int .i64 (L : Int)] 54)).block q hq)))
          obtain ⟨av, cv, gv, rfl, _⟩ := own_at hown
          clear hown hgrow hat hnil e2 s2 hrd hz0 hz1 hz2 hi
          go_wp2
          go_ret2
          rw [E0.out]
          exact ⟨rfl, ⟨_, _, _, _, H2.out, r', by rw [List.length_append]; simp⟩, HF.out⟩
        · have e0 : tryF n h2 who L = (false, 0, h2) := by
            unfold tryF; rw [HB.out, hab]; simp [hf]
          have E0 := Lib.hid e0; clear e0
          have hz : (0 : Int) ≤ holderF n h2 (L : Int) := by rw [eh]; omega
          clear eh hab hf
          go_wp2_with (go_at_call 22; refine (ref_holder s r ok (L : Int)).mono ?_; rintro e w' ⟨rfl, rfl⟩)
          go_ret2
          rw [E0.out]
          exact ⟨rfl, HS.out⟩

theorem free_none {n : Nat} {h : Hold} {who lock : Int} (hb : bad n who lock = false) (hf : h lock.toNat ≠ who) : freeF n h who lock = (7, h) := by unfold freeF; rw [hb]; simp [hf]
theorem free_some {n L : Nat} {h : Hold} {who : Int} (hb : bad n who (L : Int) = false) (hf : h L = who) : freeF n h who (L : Int) = (0, upd h L (-1)) := by unfold freeF; rw [hb]; simp [hf]
theorem elem45 : Try.prog.elem 45 = 54 := by kernel_rfl
set_option maxRecDepth 100000 in
set_option maxHeartbeats 8000000 in
theorem ref_free {h2 : Hold} (s : PSt w0 w b n h R l a c g) (r : RL n h2 l) (ok : OkH h2) (hl : l.length ≤ 200) (who lock : Int) (hwho : who ≤ 9223372036854775807) :
    Calls Try.prog 20 #[.pointer (some ⟨R, 0, none⟩), .int .i64 who, .int .i64 lock] w fun e w' =>
      e = .returned (.int .i64 (freeF n h2 who lock).1) ∧ Doc w0 b n h R a g w (freeF n h2 who lock).2 (l.length + 1) w' := by
  have c0 := s.pb.c0
  have c1 := s.pb.c1
  have hn := s.pb.st.tab.le
  have same : Doc w0 b n h R a g w h2 (l.length + 1) w := ⟨⟨l, a, c, g, s, r, by omega⟩, fun _ _ _ _ => rfl⟩
  cases hb : bad n who lock with
  | true =>
    have e0 : freeF n h2 who lock = (2, h2) := by unfold freeF; rw [hb]; rfl
    rw [e0]; clear e0
    rcases bad_true hb with h1 | ⟨h1, h2⟩ | ⟨h1, h2, h3⟩
    all_goals
      clear hb
      go_enter Try.func20, Try.ntmps20
      go_wp2_with fail
      go_ret
      exact ⟨rfl, same⟩
  | false =>
    obtain ⟨h1, h2', h3⟩ := bad_false hb
    obtain ⟨L, rfl⟩ := Int.eq_ofNat_of_zero_le h2'
    obtain ⟨m, hlen⟩ : ∃ m, l.length = m := ⟨_, rfl⟩
    rw [hlen] at hl c1
    have hle := s.own.le
    rw [hlen] at hle
    unfold maxLen at hle
    have HL := Lib.hid hlen; clear hlen
    have HS := Lib.hid same; clear same
    have HB := Lib.hid hb; clear hb
    go_enter Try.func20, Try.ntmps20
    go_wp2_with fail
    go_loopw [7] (fun i wr => ∃ k : Nat, k ≤ m ∧ i = .int .i64 k ∧ wr = w ∧ ∀ j p, j < k → l[j]? = some p → ¬ (p.1 = who ∧ p.2 = (L : Int))) (fun i _ => m - (intOf i).toNat)
    case atStart => exact ⟨0, Nat.zero_le _, rfl, rfl, fun j p hj => absurd hj (Nat.not_lt_zero j)⟩
    case round =>
      obtain ⟨k, hk, rfl, rfl, hne⟩ := hrel
      have Hne := Lib.hid hne; clear hne
      by_cases hlt : k < m
      · obtain ⟨p, hp, hpm⟩ := mem_at (l := l) (i := k) (by rw [HL.out]; exact hlt)
        obtain ⟨cw, cl⟩ := s.cw hp
        have Hp := Lib.hid hp; clear hp
        obtain rfl := s.own.at_ (by rw [HL.out]; omega)
        by_cases heq : p.1 = who
        · have q : (p.1 == who) = true := by rw [heq]; exact beq_self_eq_true _
          have HW := Lib.hid heq; clear heq
          by_cases hle2 : p.2 = (L : Int)
          · have q2 : (p.2 == (L : Int)) = true := by rw [hle2]; exact beq_self_eq_true _
            have hpe : l[k]? = some (who, (L : Int)) := by rw [Hp.out, ← HW.out, ← hle2]
            obtain ⟨hf, r'⟩ := r.drop (by omega) hpe
            have E0 := Lib.hid (free_some (n := n) (L := L) (h := h2) (who := who) HB.out hf)
            clear hle2 hf hpe
            obtain ⟨i0, hi, hz0, hz1, hz2⟩ := info_parts info54
            have hto := run_slice_to Try.underlying45 elem45 hi g 0 m c k (by omega)
            obtain ⟨A2, hfrom, hrd2⟩ := run_slice_from Try.underlying45 elem45 hi g 0 m c (k + 1) (by omega) (by omega)
            have hrd := s.own.rd
            rw [HL.out] at hrd
            have H1 := Lib.hid (hrd.take (k := k) (by omega))
            rw [hz1] at hrd2
            have H2 := Lib.hid hrd2
            have HR := Lib.hid hrd
            have hsz : (cells2 l).take (k * 2) ++ (cells2 l).drop ((k + 1) * 2) = cells2 (l.take k ++ l.drop (k + 1)) := by rw [cells2_append, cells2_take, cells2_drop]
            have HZ := Lib.hid hsz
            have hR := s.pb.row.lt
            have fzR := s.pb.row.frozen 1
            have HK := Lib.hid (show ((k : Int) + 1) = ((k + 1 : Nat) : Int) by omega)
            have hfrom' := fun W => by have := hfrom W; rw [← HK.out] at this; exact this
            have hk1 : IntKind.i64.wrap ((k : Int) + 1) = (k : Int) + 1 := by rw [IntKind.wrap_i64]; omega
            clear hrd2 hrd hsz hfrom
            go_wp2
            have hE : (wr.alloc (.cells #[] 54)).drew.ownsRow w0.heap.size 54 2 (.slice (some ⟨wr.heap.size, 0, none⟩) 0 0) 0 [] := own_empty wr 54 2 s.pb.st.below.size
            have hbE : Below wr.heap.size wr (wr.alloc (.cells #[] 54)).drew := (below_alloc (Below.refl _ _) _).drew
            have hA : Rd (wr.alloc (.cells #[] 54)).drew 2 (some ⟨g, 0, none⟩) k ((cells2 l).take (k * 2)) := H1.out.below hbE
            have hB : ∀ w1 : World, (wr.alloc (.cells #[] 54)).drew.grownBy w1 (some wr.heap.size) → Below wr.heap.size wr w1 := fun _ hg => hbE.grown hg (by simp) (fun k hk => by cases hk; exact Nat.le_refl _)
            have hB2 : ∀ w1 : World, (wr.alloc (.cells #[] 54)).drew.grownBy w1 (some wr.heap.size) → Rd w1 2 A2 (m - (k + 1)) ((cells2 l).drop ((k + 1) * 2)) := fun _ hg => H2.out _ _ (HR.out.below (hB _ hg))
            have hO : ∀ k, ∀ u ∈ (cells2 l).take k, u.oneCell' = true := fun k u hu => cells2_one l u (List.mem_of_mem_take hu)
            have hO2 : ∀ k, ∀ u ∈ (cells2 l).drop k, u.oneCell' = true := fun k u hu => cells2_one l u (List.mem_of_mem_drop hu)
            have HN1 := Lib.hid (Nat.le_trans s.pb.st.below.size hbE.size)
            have HN2 := Lib.hid (fun (w1 : World) (hg : (wr.alloc (.cells #[] 54)).drew.grownBy w1 (some wr.heap.size)) => Nat.le_trans s.pb.st.below.size (hB w1 hg).size)
            have HS1 := Lib.hid (fun (w1 : World) (hg : (wr.alloc (.cells #[] 54)).drew.grownBy w1 (some wr.heap.size)) => And.intro (((hB w1 hg).cell (p := ⟨R, 1, none⟩) hR).trans c1) (((hB w1 hg).frozen (p := ⟨R, 1, none⟩) hR).trans fzR))
            have HB3 := Lib.hid (fun (w1 w2 : World) (v1 : Value) (hg : (wr.alloc (.cells #[] 54)).drew.grownBy w1 (some wr.heap.size)) (hat : v1.ownBlock = (Value.slice (some ⟨wr.heap.size, 0, none⟩) 0 0).ownBlock ∨ v1.ownBlock = some (wr.alloc (.cells #[] 54)).drew.heap.size) (hg2 : w1.grownBy w2 v1.ownBlock) =>
              show Below wr.heap.size wr w2 from (hB w1 hg).grown hg2 (hB w1 hg).size (fun k hk => by
                rcases hat with e | e
                · rw [hk] at e; cases e; exact Nat.le_refl _
                · rw [hk] at e; cases e; exact hbE.size))
            have HS2 := Lib.hid (fun (w1 w2 : World) (v1 : Value) (hg : (wr.alloc (.cells #[] 54)).drew.grownBy w1 (some wr.heap.size)) (hat : v1.ownBlock = (Value.slice (some ⟨wr.heap.size, 0, none⟩) 0 0).ownBlock ∨ v1.ownBlock = some (wr.alloc (.cells #[] 54)).drew.heap.size) (hg2 : w1.grownBy w2 v1.ownBlock) =>
              And.intro (((HB3.out w1 w2 v1 hg hat hg2).cell (p := ⟨R, 1, none⟩) hR).trans c1) (((HB3.out w1 w2 v1 hg hat hg2).frozen (p := ⟨R, 1, none⟩) hR).trans fzR))
            have HS0 : Hid ((wr.alloc (.cells #[] 54)).drew.cell? ⟨R, 1, none⟩ = some (.slice (some ⟨g, 0, none⟩) m c) ∧ (wr.alloc (.cells #[] 54)).drew.frozen? ⟨R, 1, none⟩ = false) := Lib.hid (And.intro ((hbE.cell (p := ⟨R, 1, none⟩) hR).trans c1) ((hbE.frozen (p := ⟨R, 1, none⟩) hR).trans fzR))
            have HE := Lib.hid hE; clear hE
            have HA := Lib.hid hA; clear hA
            have HB := Lib.hid hB; clear hB
            have HB2 := Lib.hid hB2; clear hB2
            have HO := Lib.hid hO; clear hO
            have HO2 := Lib.hid hO2; clear hO2
            go_region_law (((first
                | ((refine step_append_rd _ (by rfl) (.tmp 54) (.tmp 60) 45 (by rfl) w0.heap.size 54 i0 _ 2 16 Try.underlying45 hi hz0 hz1 hz2 rfl (by omega) (.slice (some ⟨wr.heap.size, 0, none⟩) 0 0) 0 [] (by rfl) HE.out (some ⟨g, 0, none⟩) k c ((cells2 l).take (k * 2)) (by rfl) HA.out (HO.out _) (by unfold maxLen; omega) (by omega) HN1.out ?_; intro v1 w1 hown1 hgrow1 hat1 hnil1; obtain ⟨cw1, fw1⟩ := HS1.out _ hgrow1))
                | ((refine step_append_rd _ (by rfl) (.tmp 61) (.tmp 68) 45 (by rfl) w0.heap.size 54 i0 _ 2 16 Try.underlying45 hi hz0 hz1 hz2 rfl (by omega) v1 (0 + k) ([] ++ (cells2 l).take (k * 2)) (by rfl) hown1 A2 (m - (k + 1)) (c - (k + 1)) ((cells2 l).drop ((k + 1) * 2)) (by rfl) (HB2.out _ hgrow1) (HO2.out _) (by unfold maxLen; omega) (by omega) (HN2.out _ hgrow1) ?_; intro v2 w2 hown2 hgrow2 hat2 hnil2; obtain ⟨av, cv, gv, rfl, _⟩ := own_at hown2; obtain ⟨cw2, fw2⟩ := HS2.out _ _ _ hgrow1 hat1 hgrow2)))))
            all_goals
              have s2 := s.below (HB3.out _ _ _ hgrow1 hat1 hgrow2)
              obtain ⟨a', c', g', s3⟩ := s2.pb.stored (u := .slice av (0 + k + (m - (k + 1))) cv) (l' := l.take k ++ l.drop (k + 1)) (k := 0 + k + (m - (k + 1))) (by rw [List.length_append, List.length_take, List.length_drop, HL.out]; omega) (by rw [← HZ.out]; exact hown2)
              have H3 := Lib.hid s3
              have HF := Lib.hid (fun (q : Nat) (hq : q < wr.heap.size) (hR : q ≠ R) (_ : (some (⟨g, 0, none⟩ : Addr)) ≠ none → g ≠ q) => (Below.heap_setCell _ ⟨R, 1, none⟩ (.slice av (k + (m - (k + 1))) cv) q hR).trans ((HB3.out _ _ _ hgrow1 hat1 hgrow2).block q hq))
              have HL2 := Lib.hid (show (l.take k ++ l.drop (k + 1)).length ≤ l.length + 1 by rw [List.length_append, List.length_take, List.length_drop]; omega)
              simp only [Nat.zero_add] at H3
              clear hown1 hown2 hgrow1 hgrow2 hat1 hat2 hnil1 hnil2 s2 s3 cw1 fw1 cw2 fw2 hto hfrom'
              go_wp2
              go_ret
              rw [E0.out]
              exact ⟨rfl, ⟨_, _, _, _, H3.out, r', HL2.out⟩, HF.out⟩
          · have q2 : (p.2 == (L : Int)) = false := beq_eq_false_iff_ne.2 hle2
            have HQ := Lib.hid hle2; clear hle2
            go_wp2
            go_roundw
            case rel => exact ⟨k + 1, by omega, by go_num, trivial, fun j p' hj hp' => by
              rcases Nat.lt_or_ge j k with hj' | hj'
              · exact Hne.out j p' hj' hp'
              · obtain rfl : j = k := by omega
                rw [Hp.out] at hp'
                cases hp'
                exact fun hh => HQ.out hh.2⟩
            case measure => simp [intOf]; omega
        · have q : (p.1 == who) = false := beq_eq_false_iff_ne.2 heq
          have HQ := Lib.hid heq; clear heq
          go_wp2
          go_roundw
          case rel => exact ⟨k + 1, by omega, by go_num, trivial, fun j p' hj hp' => by
            rcases Nat.lt_or_ge j k with hj' | hj'
            · exact Hne.out j p' hj' hp'
            · obtain rfl : j = k := by omega
              rw [Hp.out] at hp'
              cases hp'
              exact fun hh => HQ.out hh.1⟩
          case measure => simp [intOf]; omega
      · obtain rfl : k = m := by omega
        have hf : h2 L ≠ who := fun hh => by
          have := (r.iff L (by omega) who h1).1 hh
          exact not_mem (q := fun p => p.1 = who ∧ p.2 = (L : Int)) (fun i p hi => Hne.out i p (by
            have := (List.getElem?_eq_some_iff.1 hi).1
            rw [← HL.out]; exact this) hi) _ this ⟨rfl, rfl⟩
        have E0 := Lib.hid (free_none HB.out (by simpa using hf)); clear hf
        go_wp2
        go_ret
        rw [E0.out]
        exact ⟨rfl, HS.out⟩

/-- The table's try, the document's not yet. -/
theorem PSt.try1 (s : PSt w0 w b n h R l a c g) (who lock : Int) (hwho : who ≤ 9223372036854775807) :
    Calls Try.prog 12 #[.pointer (some ⟨b, 0, none⟩), .int .i64 who, .int .i64 lock] w fun e w' =>
      e = .returned (.tuple #[.bool (tryF n h who lock).1, .int .i64 (tryF n h who lock).2.1]) ∧ PSt w0 w' b n (tryF n h who lock).2.2 R l a c g ∧ Only w w' b :=
  (try_any b n h who lock w s.pb.st.tab hwho).mono fun _ _ ⟨he, t, o⟩ => ⟨he, s.tabTo (s.pb.st.only t o) o, o⟩
theorem PSt.free1 (s : PSt w0 w b n h R l a c g) (who lock : Int) (hwho : who ≤ 9223372036854775807) :
    Calls Try.prog 11 #[.pointer (some ⟨b, 0, none⟩), .int .i64 who, .int .i64 lock] w fun e w' =>
      e = .returned (.int .i64 (freeF n h who lock).1) ∧ PSt w0 w' b n (freeF n h who lock).2 R l a c g ∧ Only w w' b :=
  (free_any b n h who lock w s.pb.st.tab hwho).mono fun _ _ ⟨he, t, o⟩ => ⟨he, s.tabTo (s.pb.st.only t o) o, o⟩

set_option maxHeartbeats 1000000 in
theorem ref_held {h2 : Hold} (s : PSt w0 w b n h R l a c g) (r : RL n h2 l) (ok : OkH h2) (who : Int) :
    Calls Try.prog 21 #[.pointer (some ⟨R, 0, none⟩), .int .i64 who] w fun e w' => Owned w w' (heldF h2 who n) e := by
  obtain ⟨i0, hi, hz0, hz1, hz2⟩ := info_parts info3
  have hn := s.pb.st.tab.le
  go_enter Try.func21, Try.ntmps21
  go_wp2_with fail
  go_loopw [5, 6] (fun v i wr => ∃ k : Nat, k ≤ n ∧ i = .int .i64 k ∧ wr.ownsRow w.heap.size 3 1 v (heldF h2 who k).length ((heldF h2 who k).map (Value.int .i64)) ∧ Below w.heap.size w wr) (fun _ i _ => n - (intOf i).toNat)
  case atStart => exact ⟨0, Nat.zero_le _, rfl, World.ownsRow_nil _ _ _ _, Below.refl _ _⟩
  case round =>
    obtain ⟨k, hk, rfl, hown, hb⟩ := hrel
    have hlen := heldF_len h2 who k
    have hsz := hb.size
    have t := s.below hb
    have c0 := t.pb.c0
    by_cases hlt : k < n
    · by_cases h0 : 0 ≤ who
      · by_cases hq : h2 k = who
        · have e1 : heldF h2 who (k + 1) = heldF h2 who k ++ [(k : Int)] := by rw [heldF_succ, if_pos ⟨h0, hq⟩]
          have E1 := Lib.hid e1; clear e1
          have q : (h2 k == who) = true := by rw [hq]; exact beq_self_eq_true _
          clear hq
          go_wp2_with fail
          refine (ref_holder t r ok k).mono ?_
          rintro e w' ⟨rfl, rfl⟩
          rw [holder_in hlt]
          generalize heldF h2 who k = l' at *
          go_wp2_with (at_builtin; refine wpList_append_own _ rfl (.tmp 24) (.tmp 26) 38 rfl w.heap.size 3 i0 (.int .i64 0) 1 8 Try.underlying38 hi hz0 hz1 hz2 rfl (by decide) _ _ _ rfl (hown.alloc _) ⟨wr.heap.size, 0, none⟩ 1 1 [.int .i64 (k : Int)] rfl rfl (cell_one_new _ _ _) (ints_oneCell .i64 [(k : Int)]) (by unfold maxLen; omega) (by omega) (by simp; omega) ?_)
          intro v' w1 hown' hgrow _
          have hb1 : Below w.heap.size w w1 := (hb.alloc hsz _).grown hgrow (by simp; omega) (fun j hj => (hown.lt j hj).1)
          clear hgrow hown
          go_wp2_with fail
          go_roundw
          case rel => exact ⟨k + 1, by omega, by go_num, by rw [E1.out, List.length_append, List.map_append]; exact hown', hb1⟩
          case measure => simp [intOf]; omega
        · have e1 : heldF h2 who (k + 1) = heldF h2 who k := by rw [heldF_succ, if_neg (fun hh => hq hh.2), List.append_nil]
          have E1 := Lib.hid e1; clear e1
          have q : (h2 k == who) = false := beq_eq_false_iff_ne.2 hq
          clear hq
          go_wp2_with fail
          refine (ref_holder t r ok k).mono ?_
          rintro e w' ⟨rfl, rfl⟩
          rw [holder_in hlt]
          go_wp2_with fail
          go_roundw
          case rel => exact ⟨k + 1, by omega, by go_num, by rw [E1.out]; exact hown, hb⟩
          case measure => simp [intOf]; omega
      · have e1 : heldF h2 who (k + 1) = heldF h2 who k := by rw [heldF_succ, if_neg (fun hh => h0 hh.1), List.append_nil]
        have E1 := Lib.hid e1; clear e1
        go_wp2_with fail
        go_roundw
        case rel => exact ⟨k + 1, by omega, by go_num, by rw [E1.out]; exact hown, hb⟩
        case measure => simp [intOf]; omega
    · obtain rfl : k = n := by omega
      go_wp2_with fail
      go_ret
      exact ⟨_, rfl, hown, hb⟩
end
end Go.Proofs.Yteafbkgaihjieaa
