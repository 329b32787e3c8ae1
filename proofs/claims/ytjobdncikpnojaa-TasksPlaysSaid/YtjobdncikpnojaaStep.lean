/-
  The walks of a program's steps: a try, a free, a thing that is told.
-/
import Derived.Test.YtjobdncikpnojaaActs
import Derived.Deep.RegionLaw
namespace Go.Proofs.Ytjobdncikpnojaa
open Go.RowKit
/-- Pairs as cells. -/
def cells2 (l : List (Int × Int)) : List Value := l.flatMap fun x => [.int .i64 x.1, .int .i64 x.2]
theorem cells2_snoc (l : List (Int × Int)) (x : Int × Int) : cells2 (l ++ [x]) = cells2 l ++ [.int .i64 x.1, .int .i64 x.2] := by simp [cells2]
theorem cells2_cons (x : Int × Int) (l : List (Int × Int)) : cells2 (x :: l) = .int .i64 x.1 :: .int .i64 x.2 :: cells2 l := by simp [cells2]
theorem cells2_at : ∀ {l : List (Int × Int)} {i : Nat} {x : Int × Int}, l[i]? = some x → (cells2 l)[i * 2]? = some (.int .i64 x.1) ∧ (cells2 l)[i * 2 + 1]? = some (.int .i64 x.2)
  | [], i, x, h => by simp at h
  | y :: r, 0, x, h => by
    simp at h; subst h
    simp [cells2_cons]
  | y :: r, i + 1, x, h => by
    have := cells2_at (l := r) (i := i) (x := x) (by simpa using h)
    rw [cells2_cons, show (i + 1) * 2 = i * 2 + 1 + 1 by omega]
    simpa using this
theorem boxed_onlyT {w w' : World} {b t d : Nat} {v : Value} (h : Boxed w b t v) (k : Only w w' d) (hne : b ≠ d) : Boxed w' b t v := (k.block b h.lt (fun e => hne (by cases e; rfl))).trans h
/-- Which blocks a step turns. -/
structure Tri (w w' : World) (p q r : Nat) : Prop where
  os : w'.os = w.os
  tape : w'.tape = w.tape
  output : w'.output = w.output
  size : w.heap.size ≤ w'.heap.size
  block : ∀ i, i < w.heap.size → i ≠ p → i ≠ q → i ≠ r → w'.heap[i]? = w.heap[i]?
theorem tri_refl (w : World) (p q r : Nat) : Tri w w p q r := ⟨rfl, rfl, rfl, Nat.le_refl _, fun _ _ _ _ _ => rfl⟩
theorem tri_only {w w' : World} {p q r d : Nat} (k : Only w w' d) (hd : d = p ∨ d = q ∨ d = r) : Tri w w' p q r :=
  ⟨k.os, k.tape, k.output, k.size, fun i hi h1 h2 h3 => k.block i hi (fun e => by cases e; rcases hd with rfl | rfl | rfl <;> contradiction)⟩
theorem below_tri {w0 w w' : World} {p q r : Nat} (h : Below w0.heap.size w0 w) (k : Tri w w' p q r) (h1 : w0.heap.size ≤ p) (h2 : w0.heap.size ≤ q) (h3 : w0.heap.size ≤ r) : Below w0.heap.size w0 w' :=
  ⟨k.os.trans h.os, k.tape.trans h.tape, k.output.trans h.output, Nat.le_trans h.size k.size, fun i hi => (k.block i (Nat.lt_of_lt_of_le hi h.size) (by omega) (by omega) (by omega)).trans (h.block i hi)⟩
/-- The locks, and what was told. -/
structure LW (w : World) (Z K TB : Nat) (h : Lk.Hold) (a : Option Addr) (c g : Nat) (told : List (Int × Int)) : Prop where
  lk : Lk.Tab w K 8 h
  tb : Boxed w TB 42 (.slice a told.length c)
  own : OwnAt w Z 51 2 a told.length c g (cells2 told)
  gn : a = none → g = TB
section
variable {w w' : World} {Z K TB c g : Nat} {h : Lk.Hold} {a : Option Addr} {told : List (Int × Int)}
theorem boxed_row {W : World} {b t : Nat} {v : Value} (h : Boxed W b t v) : W.rowIs b t 1 (fun _ => v) := by
  refine ⟨#[v], h, rfl, fun i hi => ?_⟩
  obtain rfl : i = 0 := by omega
  rfl
theorem LW.neK (s : LW w Z K TB h a c g told) : K ≠ TB ∧ K ≠ g := by
  have h1 := rowIs_ne s.lk.row (boxed_row s.tb) (by decide)
  refine ⟨h1, ?_⟩
  by_cases ha : a = none
  · rw [s.gn ha]; exact h1
  · exact fun e => s.own.ne s.lk.row (by decide) ha e.symm
theorem LW.neg (s : LW w Z K TB h a c g told) (ha : a ≠ none) : g ≠ TB := s.own.ne (boxed_row s.tb) (by decide) ha
theorem LW.ltg (s : LW w Z K TB h a c g told) : g < w.heap.size := by
  cases a with
  | none => rw [s.gn rfl]; exact s.tb.lt
  | some ad => exact (s.own.blk ad rfl).2.2
theorem LW.below (s : LW w Z K TB h a c g told) (k : Below w.heap.size w w') : LW w' Z K TB h a c g told := ⟨⟨rowIs_below s.lk.row k, s.lk.le, s.lk.ok⟩, boxed_belowT s.tb k, s.own.below k, s.gn⟩
theorem LW.onlyK (s : LW w Z K TB h a c g told) {h' : Lk.Hold} (t : Lk.Tab w' K 8 h') (k : Only w w' K) : LW w' Z K TB h' a c g told := by
  have h := s.neK
  exact ⟨t, (k.block TB s.tb.lt (fun e => h.1 (by cases e; rfl))).trans s.tb, s.own.only k (fun _ => h.2.symm), s.gn⟩
theorem LW.only (s : LW w Z K TB h a c g told) {d : Nat} (k : Only w w' d) (h1 : K ≠ d ∧ TB ≠ d ∧ g ≠ d) : LW w' Z K TB h a c g told :=
  ⟨⟨rowIs_only s.lk.row k h1.1, s.lk.le, s.lk.ok⟩, (k.block TB s.tb.lt (fun e => h1.2.1 (by cases e; rfl))).trans s.tb, s.own.only k (fun _ => h1.2.2), s.gn⟩
theorem cells_of_row {b t n : Nat} {f : Nat → Value} (r : w.rowIs b t n f) : ∃ cs, w.heap[b]? = some (.cells cs t (0, 0)) := by
  obtain ⟨cs, h, _⟩ := r
  exact ⟨cs, h⟩
theorem keepT_tri {p q r : Nat} (k : Tri w w' p q r) (hp : ∃ cs, w.heap[p]? = some (.cells cs 71 (0, 0))) (hq : ∃ cs, w.heap[q]? = some (.cells cs 42 (0, 0))) (hr : ∃ cs t, w.heap[r]? = some (.cells cs t (0, 0)) ∧ (t = 42 ∨ t = 51)) : KeepT w w' := by
  obtain ⟨cp, hp⟩ := hp
  obtain ⟨cq, hq⟩ := hq
  obtain ⟨cr, t, hr, ht⟩ := hr
  intro b cs t' hb h1 h2 h3 h4
  refine k.block b (Array.getElem?_eq_some_iff.1 hb).1 ?_ ?_ ?_
  · rintro rfl; rw [hp] at hb; injection hb with hb; injection hb with _ hb; exact h2 hb.symm
  · rintro rfl; rw [hq] at hb; injection hb with hb; injection hb with _ hb; exact h3 hb.symm
  · rintro rfl; rw [hr] at hb; injection hb with hb; injection hb with _ hb
    rcases ht with rfl | rfl
    · exact h3 hb.symm
    · exact h4 hb.symm
theorem LW.keepT (s : LW w Z K TB h a c g told) (k : Tri w w' K TB g) : KeepT w w' := by
  refine keepT_tri k (cells_of_row s.lk.row) ⟨_, s.tb⟩ ?_
  by_cases ha : a = none
  · rw [s.gn ha]; exact ⟨_, 42, s.tb, .inl rfl⟩
  · rcases s.own.own.2 with ⟨h1, _⟩ | ⟨g', cap, cur, h1, _, hg, _⟩
    · injection h1 with h1 _ _; exact absurd h1 ha
    · injection h1 with h1 _ _
      have e := (s.own.blk _ h1).1
      cases e
      exact ⟨_, 51, hg, .inr rfl⟩
end
/-- What a step does: 0 it is over, 1 it stays, 2 it goes on; the locks; what is told. -/
def stepF (who : Int) (h : Lk.Hold) (x : Int × Int) : Nat × Lk.Hold × List (Int × Int) :=
  if x.1 = 1 then
    let r := Lk.tryF 8 h who x.2
    (if r.2.1 = 0 then (if r.1 then 2 else 1) else 0, r.2.2, [])
  else if x.1 = 2 then
    let r := Lk.freeF 8 h who x.2
    (if r.1 = 0 then 2 else 0, r.2, [])
  else (2, h, if x.1 = 3 then [(who, x.2)] else [])
def goOn (code : Nat) (v v' : Value) : Value := if code = 0 then .nilFunc else if code = 1 then v else v'
theorem cf29 (xs : Array Value) (W : World) : Sem.run Try.prog (callFunc 29 xs) W = .ok (.enter 29 xs) W := by kernel_rfl
theorem cf31 (xs : Array Value) (W : World) : Sem.run Try.prog (callFunc 31 xs) W = .ok (.enter 31 xs) W := by kernel_rfl
theorem cf27 (xs : Array Value) (W : World) : Sem.run Try.prog (callFunc 27 xs) W = .ok (.enter 27 xs) W := by kernel_rfl
theorem info51 : (Try.prog.info? 51).map (fun i => (i.zero, i.size, i.bytes)) = some (some (.agg #[.int .i64 0, .int .i64 0]), 2, 16) := by kernel_rfl
theorem keepS {w1 : World} {TB p1 p2 p3 : Nat} {a b c : Value} (h : w1.cell? ⟨p2, 0, none⟩ = some a ∧ w1.cell? ⟨p3, 0, none⟩ = some b ∧ w1.cell? ⟨p1, 1, none⟩ = some c) (hn : TB ≠ p1 ∧ TB ≠ p2 ∧ TB ≠ p3) (v : Value) :
    (w1.setCell ⟨TB, 0, none⟩ v).cell? ⟨p2, 0, none⟩ = some a ∧ (w1.setCell ⟨TB, 0, none⟩ v).cell? ⟨p3, 0, none⟩ = some b ∧ (w1.setCell ⟨TB, 0, none⟩ v).cell? ⟨p1, 1, none⟩ = some c := by
  refine ⟨?_, ?_, ?_⟩
  · rw [World.cell?_setCell_other (h := fun e => hn.2.1 (congrArg Addr.block e))]; exact h.1
  · rw [World.cell?_setCell_other (h := fun e => hn.2.2 (congrArg Addr.block e))]; exact h.2.1
  · rw [World.cell?_setCell_other (h := fun e => hn.1 (congrArg Addr.block e))]; exact h.2.2
/-- What a step leaves. -/
def Done (w w' : World) (Z K TB g : Nat) (h' : Lk.Hold) (told' : List (Int × Int)) : Prop := ∃ a' c' g', LW w' Z K TB h' a' c' g' told' ∧ (g' = g ∨ w.heap.size ≤ g') ∧ Tri w w' K TB g
section
variable {w : World} {Z K TB c g : Nat} {h : Lk.Hold} {a : Option Addr} {told : List (Int × Int)} {who : Int} {v v' : Value} {z : Bool}
theorem lock_step (s : LW w Z K TB h a c g told) (hwho : who ≤ 9223372036854775807) {N : Int} (hv' : StepV v' z) (f : Bool) {p1 p2 p3 p4 p5 : Nat} (hv : v = .func (.func 29) #[] #[ptr p1, ptr p2, ptr p3, ptr p4, ptr p5]) (h1 : Boxed w p1 40 (ptr K)) (h2 : Boxed w p2 3 (.int .i64 who)) (h3 : Boxed w p3 3 (.int .i64 N)) (h4 : Boxed w p4 26 v) (h5 : Boxed w p5 26 v') :
    Calls Try.prog 29 #[.bool f, ptr p1, ptr p2, ptr p3, ptr p4, ptr p5] w fun e w' => e = .returned (goOn (stepF who h (1, N)).1 v v') ∧ Done w w' Z K TB g (stepF who h (1, N)).2.1 (told ++ (stepF who h (1, N)).2.2) := by
  obtain ⟨ok, e0, h', hr⟩ : ∃ ok e0 h', Lk.tryF 8 h who N = (ok, e0, h') := ⟨_, _, _, rfl⟩
  have ht := Lk.try_any K 8 h who N w s.lk hwho
  rw [hr] at ht
  simp only at ht
  have hE : stepF who h (1, N) = (if e0 = 0 then (if ok then 2 else 1) else 0, h', []) := by unfold stepF; simp [hr]
  rw [hE]
  simp only [List.append_nil]
  have HT := Lib.hid ht
  have c1 := h1.cell
  have c2 := h2.cell
  have c3 := h3.cell
  have n1 := rowIs_ne s.lk.row (boxed_row h4) (by decide)
  have n2 := rowIs_ne s.lk.row (boxed_row h5) (by decide)
  have H4 := Lib.hid h4
  have H5 := Lib.hid h5
  subst hv
  clear ht hE hr h1 h2 h3 h4 h5
  go_enter Try.func29, Try.ntmps29
  go_wp2_with fail
  refine HT.out.mono ?_
  rintro e w1 ⟨rfl, t1, o1⟩
  have c4 := (boxed_onlyT H4.out o1 n1.symm).cell
  have c5 := (boxed_onlyT H5.out o1 n2.symm).cell
  have HD := Lib.hid (show Done w w1 Z K TB g h' told from ⟨a, c, g, s.onlyK t1 o1, .inl rfl, tri_only o1 (.inl rfl)⟩)
  clear c1 c2 c3 o1 t1
  by_cases he : e0 = 0
  · subst he
    cases ok with
    | true =>
      cases hv'
      all_goals
        go_wp2_with fail
        go_ret
        exact ⟨rfl, HD.out⟩
    | false =>
      go_wp2_with fail
      go_ret
      exact ⟨rfl, HD.out⟩
  · have q : (e0 != 0) = true := by rw [bne_iff_ne]; exact he
    have HE := Lib.hid he
    clear he
    go_wp2_with fail
    go_ret
    exact ⟨rfl, HD.out⟩
theorem unlock_step (s : LW w Z K TB h a c g told) (hwho : who ≤ 9223372036854775807) {N : Int} (hv' : StepV v' z) (f : Bool) {p1 p2 p3 p4 : Nat} (h1 : Boxed w p1 40 (ptr K)) (h2 : Boxed w p2 3 (.int .i64 who)) (h3 : Boxed w p3 3 (.int .i64 N)) (h4 : Boxed w p4 26 v') :
    Calls Try.prog 31 #[.bool f, ptr p1, ptr p2, ptr p3, ptr p4] w fun e w' => e = .returned (goOn (stepF who h (2, N)).1 v v') ∧ Done w w' Z K TB g (stepF who h (2, N)).2.1 (told ++ (stepF who h (2, N)).2.2) := by
  obtain ⟨e0, h', hr⟩ : ∃ e0 h', Lk.freeF 8 h who N = (e0, h') := ⟨_, _, rfl⟩
  have ht := Lk.free_any K 8 h who N w s.lk hwho
  rw [hr] at ht
  simp only at ht
  have hE : stepF who h (2, N) = (if e0 = 0 then 2 else 0, h', []) := by unfold stepF; simp [hr]
  rw [hE]
  simp only [List.append_nil]
  have HT := Lib.hid ht
  have c1 := h1.cell
  have c2 := h2.cell
  have c3 := h3.cell
  have n1 := rowIs_ne s.lk.row (boxed_row h4) (by decide)
  have H4 := Lib.hid h4
  clear ht hE hr h1 h2 h3 h4
  go_enter Try.func31, Try.ntmps31
  go_wp2_with fail
  refine HT.out.mono ?_
  rintro e w1 ⟨rfl, t1, o1⟩
  have c4 := (boxed_onlyT H4.out o1 n1.symm).cell
  have HD := Lib.hid (show Done w w1 Z K TB g h' told from ⟨a, c, g, s.onlyK t1 o1, .inl rfl, tri_only o1 (.inl rfl)⟩)
  clear c1 c2 c3 o1 t1
  by_cases he : e0 = 0
  · subst he
    cases hv'
    all_goals
      go_wp2_with fail
      go_ret
      exact ⟨rfl, HD.out⟩
  · have q : (e0 != 0) = true := by rw [bne_iff_ne]; exact he
    have HE := Lib.hid he
    clear he
    go_wp2_with fail
    go_ret
    exact ⟨rfl, HD.out⟩
set_option maxHeartbeats 8000000 in
theorem tell_step (s : LW w Z K TB h a c g told) (hZ : Z ≤ w.heap.size) (hn : told.length ≤ 1000000) (x : Int × Int) (hk1 : x.1 ≠ 1) (hk2 : x.1 ≠ 2) (hv' : StepV v' z) (f : Bool) {p1 p2 p3 p4 : Nat}
    (h1 : w.heap[p1]? = some (.cells #[.int .i64 x.1, .int .i64 x.2] 47 (0, 0))) (h2 : Boxed w p2 49 (ptr TB)) (h3 : Boxed w p3 3 (.int .i64 who)) (h4 : Boxed w p4 26 v') :
    Calls Try.prog 27 #[.bool f, ptr p1, ptr p2, ptr p3, ptr p4] w fun e w' => e = .returned (goOn (stepF who h x).1 v v') ∧ Done w w' Z K TB g (stepF who h x).2.1 (told ++ (stepF who h x).2.2) := by
  obtain ⟨k0, k1⟩ := x
  simp only at hk1 hk2 h1
  have q0 : w.cell? ⟨p1, 0, none⟩ = some (.int .i64 k0) := by unfold World.cell?; rw [h1]; rfl
  have q1 : w.cell? ⟨p1, 1, none⟩ = some (.int .i64 k1) := by unfold World.cell?; rw [h1]; rfl
  have hE : stepF who h (k0, k1) = (2, h, if k0 = 3 then [(who, k1)] else []) := by unfold stepF; simp [hk1, hk2]
  rw [hE]
  have c2 := h2.cell
  have c3 := h3.cell
  have c4 := h4.cell
  have ct := s.tb.cell
  have hp1 := (Array.getElem?_eq_some_iff.1 h1).1
  have hp2 := h2.lt
  have hp3 := h3.lt
  have hp4 := h4.lt
  have hpT := s.tb.lt
  have ft := s.tb.frozen
  have n4 := boxed_row h4
  have H4 := Lib.hid h4
  have H1 := Lib.hid h1
  have H2 := Lib.hid h2
  have H3 := Lib.hid h3
  have hne4 : TB ≠ p4 := rowIs_ne (boxed_row s.tb) (boxed_row h4) (by decide)
  clear hE h1 h2 h3 h4 n4
  by_cases h3 : k0 = 3
  · subst h3
    obtain ⟨i0, hi, hz0, hz1, hz2⟩ := info_parts info51
    have lec := s.own.le
    unfold maxLen at lec
    have bX : Below w.heap.size w (w.alloc (.cells #[.int .i64 who, .int .i64 k1] 51)).drew := (below_new _ _).drew
    have HO := Lib.hid (show (w.alloc (.cells #[.int .i64 who, .int .i64 k1] 51)).drew.ownsRow Z 51 2 (.slice a told.length c) told.length (cells2 told) from s.own.own.alloc _)
    have HR := Lib.hid (show Rd (w.alloc (.cells #[.int .i64 who, .int .i64 k1] 51)).drew 2 (some ⟨w.heap.size, 0, none⟩) 1 [.int .i64 who, .int .i64 k1] from (rd_new w #[.int .i64 who, .int .i64 k1] 51 2 1 rfl).drew)
    have HN := Lib.hid (Nat.le_trans hZ bX.size)
    have hfin : ∀ (v1 : Value) (w1 : World), w1.ownsRow Z 51 2 v1 (told.length + 1) (cells2 told ++ [.int .i64 who, .int .i64 k1]) → (w.alloc (.cells #[.int .i64 who, .int .i64 k1] 51)).drew.grownBy w1 (Value.slice a told.length c).ownBlock → (¬ v1 = .slice none 0 0) →
        (v1.ownBlock = (Value.slice a told.length c).ownBlock ∨ v1.ownBlock = some (w.alloc (.cells #[.int .i64 who, .int .i64 k1] 51)).drew.heap.size) →
        ∃ a' c', v1 = .slice a' (told.length + 1) c' ∧ w1.cell? ⟨TB, 0, none⟩ = some (.slice a told.length c) ∧ w1.frozen? ⟨TB, 0, none⟩ = false ∧ w1.cell? ⟨p4, 0, none⟩ = some v' ∧
          (w1.cell? ⟨p2, 0, none⟩ = some (ptr TB) ∧ w1.cell? ⟨p3, 0, none⟩ = some (.int .i64 who) ∧ w1.cell? ⟨p1, 1, none⟩ = some (.int .i64 k1)) ∧ (TB ≠ p1 ∧ TB ≠ p2 ∧ TB ≠ p3) ∧ Done w (w1.setCell ⟨TB, 0, none⟩ (.slice a' (told.length + 1) c')) Z K TB g h (told ++ [(who, k1)]) := by
      intro v1 w1 ho hg hv1 hat
      have ho' := ho
      obtain ⟨a', c', g', rfl, oa⟩ := own_at ho
      have ha' : a' ≠ none := by
        rintro rfl
        rcases ho'.2 with ⟨h1, _⟩ | ⟨_, _, _, h1, _⟩
        · exact hv1 h1
        · cases h1
      obtain ⟨ad, rfl⟩ : ∃ ad, a' = some ad := by cases a' with | none => exact absurd rfl ha' | some ad => exact ⟨ad, rfl⟩
      obtain ⟨rfl, hg1, hg2⟩ := oa.blk _ rfl
      have blk : ∀ i, i < w.heap.size → i ≠ g → w1.heap[i]? = w.heap[i]? := fun i hi hig => by
        refine (hg.block i (Nat.lt_of_lt_of_le hi bX.size) (fun e => ?_)).trans (bX.block i hi)
        cases a with
        | none => cases e
        | some ad =>
          have e2 := (s.own.blk ad rfl).1
          subst e2
          cases e
          exact hig rfl
      have hgT : TB ≠ g ∨ a = none := by
        by_cases ha : a = none
        · exact .inr ha
        · exact .inl (s.neg ha).symm
      have blkT : w1.heap[TB]? = w.heap[TB]? := by
        rcases hgT with h | h
        · exact blk TB hpT h
        · subst h
          exact (hg.block TB (Nat.lt_of_lt_of_le hpT bX.size) (fun e => by cases e)).trans (bX.block TB hpT)
      have blk4 : w1.heap[p4]? = w.heap[p4]? := by
        by_cases ha : a = none
        · subst ha
          exact (hg.block p4 (Nat.lt_of_lt_of_le hp4 bX.size) (fun e => by cases e)).trans (bX.block p4 hp4)
        · exact blk p4 hp4 (fun e => s.own.ne (boxed_row H4.out) (by decide) ha e.symm)
      have nT1 : TB ≠ p1 := by
        rintro rfl
        have e1 := H1.out
        rw [show w.heap[TB]? = _ from s.tb] at e1
        injection e1 with e1
        injection e1 with _ e1
        exact absurd e1 (by decide)
      have nT2 : TB ≠ p2 := rowIs_ne (boxed_row s.tb) (boxed_row H2.out) (by decide)
      have nT3 : TB ≠ p3 := rowIs_ne (boxed_row s.tb) (boxed_row H3.out) (by decide)
      have blkX : ∀ (i : Nat) (cs : Array Value) (t : TypeId), w.heap[i]? = some (.cells cs t (0, 0)) → t ≠ 51 → w1.heap[i]? = w.heap[i]? := fun i cs t hc ht => by
        have hil := (Array.getElem?_eq_some_iff.1 hc).1
        by_cases ha : a = none
        · subst ha
          exact (hg.block i (Nat.lt_of_lt_of_le hil bX.size) (fun e => by cases e)).trans (bX.block i hil)
        · refine blk i hil ?_
          rintro rfl
          rcases s.own.own.2 with ⟨h1, _⟩ | ⟨g2, cap, cur, h1, _, hg2', _⟩
          · injection h1 with h1 _ _; exact ha h1
          · injection h1 with h1 _ _
            have e := (s.own.blk _ h1).1
            cases e
            rw [hg2'] at hc
            injection hc with hc
            injection hc with _ hc
            exact ht hc.symm
      have k2 : Boxed w1 p2 49 (ptr TB) := (blkX p2 _ 49 H2.out (by decide)).trans H2.out
      have k3 : Boxed w1 p3 3 (.int .i64 who) := (blkX p3 _ 3 H3.out (by decide)).trans H3.out
      have k1' : w1.cell? ⟨p1, 1, none⟩ = some (.int .i64 k1) := (World.cell?_of_block (a := ⟨p1, 1, none⟩) (blkX p1 _ 47 H1.out (by decide))).trans q1
      have blkK : w1.heap[K]? = w.heap[K]? := by
        by_cases ha : a = none
        · subst ha
          exact (hg.block K (Nat.lt_of_lt_of_le s.lk.row.lt bX.size) (fun e => by cases e)).trans (bX.block K s.lk.row.lt)
        · exact blk K s.lk.row.lt s.neK.2
      have t1 : Boxed w1 TB 42 (.slice a told.length c) := blkT.trans s.tb
      have hg'T : g' ≠ TB := oa.ne (boxed_row t1) (by decide) (by simp)
      have hgg : g' = g ∨ w.heap.size ≤ g' := by
        rcases hat with e | e
        · cases a with
          | none => cases e
          | some ad =>
            have e2 := (s.own.blk ad rfl).1
            subst e2
            cases e
            exact .inl rfl
        · right
          have e3 : g' = (w.alloc (.cells #[.int .i64 who, .int .i64 k1] 51)).drew.heap.size := by cases e; rfl
          rw [e3]
          exact bX.size
      have on := only_set (only_refl w1 TB) 0 (.slice (some ⟨g', 0, none⟩) (told.length + 1) c')
      have hl : (told ++ [(who, k1)]).length = told.length + 1 := by simp
      refine ⟨_, _, rfl, t1.cell, t1.frozen, (show Boxed w1 p4 26 v' from blk4.trans H4.out).cell, ⟨k2.cell, k3.cell, k1'⟩, ⟨nT1, nT2, nT3⟩, some ⟨g', 0, none⟩, c', g', ⟨?_, ?_, ?_, fun e => by cases e⟩, hgg, ?_⟩
      · have hK : w1.rowIs K 71 66 (Lk.tabF 8 h) := s.lk.row.of_block blkK
        exact ⟨rowIs_only hK on s.neK.1, s.lk.le, s.lk.ok⟩
      · rw [hl]; exact t1.set _
      · rw [hl, cells2_snoc]; exact oa.only on (fun _ => hg'T)
      · refine ⟨hg.os.trans bX.os, hg.tape.trans bX.tape, hg.output.trans bX.output, ?_, fun i hi h1 h2 h3 => ?_⟩
        · have := bX.size; have := hg.size; simp [World.setCell]; omega
        · exact (Below.heap_setCell w1 ⟨TB, 0, none⟩ _ i h2).trans (blk i hi h3)
    have FIN := Lib.hid hfin
    have HOne := Lib.hid (show ∀ u ∈ ([.int .i64 who, .int .i64 k1] : List Value), u.oneCell' = true by simp [Value.oneCell'])
    clear hfin bX
    go_enter Try.func27, Try.ntmps27
    go_wp2_with fail
    go_upto_region 2 with fail
    go_cut [] from 10 to 20 (fun wx => wx.cell? ⟨p4, 0, none⟩ = some v' ∧ Done w wx Z K TB g h (told ++ [(who, k1)]))
    case first =>
      go_region_law (((refine step_append_rd _ (by rfl) (.tmp 13) (.tmp 18) 42 (by rfl) Z 51 i0 _ 2 16 Try.underlying42 hi hz0 hz1 hz2 rfl (by omega) (.slice a told.length c) told.length (cells2 told) (by rfl) HO.out (some ⟨w.heap.size, 0, none⟩) 1 1 [.int .i64 who, .int .i64 k1] (by rfl) HR.out HOne.out (by unfold maxLen; omega) (by omega) HN.out ?_; intro v1 w1 hown1 hgrow1 hat1 hnil1; obtain ⟨a', c', rfl, cT, fT, c4', hS1, hnT, hD⟩ := FIN.out v1 w1 hown1 hgrow1 (fun e => by have := (hnil1.1 e).2; cases this) hat1; obtain ⟨b1, b2, b3⟩ := hS1)))
      all_goals
        have e4 : (w1.setCell ⟨TB, 0, none⟩ (.slice a' (told.length + 1) c')).cell? ⟨p4, 0, none⟩ = some v' := by
          rw [World.cell?_setCell_other (h := fun e => hne4 (congrArg Addr.block e))]
          exact c4'
        go_wp2_with fail
        go_meet
        exact ⟨e4, hD⟩
    case rest =>
      obtain ⟨c4', hD⟩ := hcut
      have HD := Lib.hid hD
      clear hD
      cases hv'
      all_goals
        go_wp2_with fail
        go_ret
        exact ⟨rfl, HD.out⟩
  · have q : (k0 == 3) = false := beq_eq_false_iff_ne.2 h3
    have HD := Lib.hid (show Done w w Z K TB g h told from ⟨a, c, g, s, .inl rfl, tri_refl _ _ _ _⟩)
    rw [if_neg h3, List.append_nil]
    clear h3
    cases hv'
    all_goals
      go_enter Try.func27, Try.ntmps27
      go_wp2_with fail
      go_ret
      exact ⟨rfl, HD.out⟩
end
end Go.Proofs.Ytjobdncikpnojaa
