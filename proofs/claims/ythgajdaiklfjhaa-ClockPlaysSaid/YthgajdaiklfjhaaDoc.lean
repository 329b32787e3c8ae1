/-
  The document's ring in memory, and the walks of its methods.
-/
import Derived.Test.YthgajdaiklfjhaaDocP
import Derived.Test.YthgajdaiklfjhaaRem
namespace Go.Proofs.Ythgajdaiklfjhaa
open Go.RowKit

/-- The document's ring: the struct at R, the frames at X. -/
structure DK (w : World) (base R : Nat) (a : Option Addr) (c X : Nat) (L : Rg) : Prop where
  row : w.rowIs R 45 1 (fun _ => .slice a L.length c)
  own : OwnAt w base 61 3 a L.length c X (cellsR L)
  ok : OkC L
  xn : a = none → X = R
section
variable {w w' : World} {base R X c : Nat} {a : Option Addr} {L : Rg}
theorem DK.r0 (s : DK w base R a c X L) : w.cell? ⟨R, 0, none⟩ = some (.slice a L.length c) := s.row.cell (i := 0) (by omega)
theorem DK.lec (s : DK w base R a c X L) : L.length ≤ c ∧ c ≤ 9223372036854775807 := by have := s.own.le; unfold maxLen at this; exact this
theorem DK.ltX (s : DK w base R a c X L) : X < w.heap.size := by
  cases a with
  | none => rw [s.xn rfl]; exact s.row.lt
  | some ad => exact (s.own.blk ad rfl).2.2
theorem DK.geX (s : DK w base R a c X L) (hR : base ≤ R) : base ≤ X := by
  cases a with
  | none => rw [s.xn rfl]; exact hR
  | some ad => exact (s.own.blk ad rfl).2.1
theorem DK.pos (s : DK w base R a c X L) (h : 0 < L.length) : a = some ⟨X, 0, none⟩ := s.own.at_ h
theorem DK.neX (s : DK w base R a c X L) (h : 0 < L.length) : X ≠ R := s.own.ne s.row (by decide) (by rw [s.pos h]; simp)
theorem DK.of_blocks (s : DK w base R a c X L) (hs : w.heap.size ≤ w'.heap.size) (h1 : w'.heap[R]? = w.heap[R]?) (h2 : w'.heap[X]? = w.heap[X]?) : DK w' base R a c X L := ⟨s.row.of_block h1, s.own.of_block hs (fun _ => h2), s.ok, s.xn⟩
theorem DK.below (s : DK w base R a c X L) (k : Below w.heap.size w w') : DK w' base R a c X L := s.of_blocks k.size (k.block R s.row.lt) (k.block X s.ltX)
theorem DK.only (s : DK w base R a c X L) {d : Nat} (k : Only w w' d) (h1 : R ≠ d) (h2 : X ≠ d) : DK w' base R a c X L := s.of_blocks k.size (k.block R s.row.lt (fun e => h1 (by cases e; rfl))) (k.block X s.ltX (fun e => h2 (by cases e; rfl)))
theorem DK.tri (s : DK w base R a c X L) {D g b : Nat} (k : Tri w w' D g b) (h1 : R ≠ D ∧ R ≠ g ∧ R ≠ b) (h2 : X ≠ D ∧ X ≠ g ∧ X ≠ b) : DK w' base R a c X L :=
  s.of_blocks k.size (k.block R s.row.lt h1.1 h1.2.1 h1.2.2) (k.block X s.ltX h2.1 h2.2.1 h2.2.2)
theorem DK.fst (s : DK w base R a c X L) {k : Nat} {x : En} (h : L[k]? = some x) : w.cell? ⟨X, k * 3, none⟩ = some (.int .i64 x.1) := s.own.cell (cellsR_at h).1
theorem DK.snd (s : DK w base R a c X L) {k : Nat} {x : En} (h : L[k]? = some x) : w.cell? ⟨X, k * 3 + 1, none⟩ = some (.bool x.2.1) := s.own.cell (cellsR_at h).2.1
theorem DK.trd (s : DK w base R a c X L) {k : Nat} {x : En} (h : L[k]? = some x) : w.cell? ⟨X, k * 3 + 2, none⟩ = some (.bool x.2.2) := s.own.cell (cellsR_at h).2.2
theorem get_en {L : Rg} {k : Nat} (h : k < L.length) : ∃ x, L[k]? = some x := ⟨_, List.getElem?_eq_getElem h⟩
/-- A ring that an append made, stored. -/
theorem DK.store (s : DK w base R a c X L) {wn : World} (hb : Below w.heap.size w wn) {v : Value} {n : Nat} {L' : Rg} (hn : n = L'.length) (ho : wn.ownsRow base 61 3 v n (cellsR L')) (hok : OkC L') (hne : v ≠ .slice none 0 0) :
    ∃ a' c' X', DK (wn.setCell ⟨R, 0, none⟩ v) base R a' c' X' L' ∧ Only w (wn.setCell ⟨R, 0, none⟩ v) R := by
  subst hn
  obtain ⟨a', c', g', rfl, o'⟩ := own_at ho
  have hr := rowIs_below s.row hb
  have on := only_set (only_refl wn R) 0 (.slice a' L'.length c')
  cases a' with
  | none =>
    exfalso
    rcases ho.2 with ⟨h1, h2⟩ | ⟨_, _, _, h1, _⟩
    · exact hne h1
    · cases h1
  | some ad =>
    refine ⟨some ad, c', g', ⟨(hr.set 0 _).congr (fun i hi => ?_), o'.only on (o'.ne hr (by decide)), hok, fun e => by cases e⟩, only_set (only_of_below hb R) 0 _⟩
    obtain rfl : i = 0 := by omega
    rfl
theorem find_any (s : DK w base R a c X L) (hn : L.length ≤ 1000000) (f : Int) : Calls Try.prog 31 #[.pointer (some ⟨R, 0, none⟩), .int .i64 f] w fun e w' => e = .returned (.int .i64 (findI L f)) ∧ w = w' := by
  have r0 := s.r0
  have hl := s.lec
  go_enter Try.func31, Try.ntmps31
  go_wp2_with fail
  go_loop [5] (fun i => ∃ k : Nat, k ≤ L.length ∧ i = .int .i64 k ∧ ∀ j y, j < k → L[j]? = some y → y.1 ≠ f) (fun i => L.length - (intOf i).toNat)
  case atStart => exact ⟨0, Nat.zero_le _, rfl, fun j y hj => absurd hj (Nat.not_lt_zero j)⟩
  case round =>
    obtain ⟨k, hk, rfl, hne⟩ := hrel
    have Hne := Lib.hid hne; clear hne
    by_cases hlt : k < L.length
    · obtain ⟨x, hx⟩ := get_en hlt
      have c1 := s.fst hx
      have hpos := s.pos (by omega)
      subst hpos
      by_cases h1 : x.1 = f
      · have q1 : (x.1 == f) = true := by rw [h1]; simp
        have E := Lib.hid (show findI L f = (k : Int) by unfold findI; rw [findO_at hx h1 Hne.out])
        clear hx h1
        go_wp2
        go_ret
        rw [E.out]
        exact ⟨rfl, rfl⟩
      · have q1 : (x.1 == f) = false := beq_eq_false_iff_ne.2 h1
        have HX := Lib.hid hx
        have H1 := Lib.hid h1
        clear hx h1
        go_wp2
        go_round
        case rel => exact ⟨k + 1, by omega, by go_num, fun j y hj hy => by
          rcases Nat.lt_or_ge j k with h | h
          · exact Hne.out j y h hy
          · obtain rfl : j = k := by omega
            rw [HX.out] at hy
            cases hy
            exact H1.out⟩
        case measure => simp [intOf]; omega
    · have E := Lib.hid (show findI L f = -1 by
        unfold findI
        rw [findO_no (fun j y hy => Hne.out j y (by have := (List.getElem?_eq_some_iff.1 hy).1; omega) hy)])
      go_wp2
      go_ret
      rw [E.out]
      exact ⟨rfl, rfl⟩
theorem act_any (s : DK w base R a c X L) (hn : L.length ≤ 1000000) : Calls Try.prog 32 #[.pointer (some ⟨R, 0, none⟩)] w fun e w' => e = .returned (.int .i64 (actD L)) ∧ w = w' := by
  have r0 := s.r0
  have hl := s.lec
  go_enter Try.func32, Try.ntmps32
  go_wp2_with fail
  go_loop [3, 4] (fun n i => ∃ k : Nat, k ≤ L.length ∧ i = .int .i64 k ∧ n = .int .i64 (actD (L.take k))) (fun _ i => L.length - (intOf i).toNat)
  case atStart => exact ⟨0, Nat.zero_le _, rfl, rfl⟩
  case round =>
    obtain ⟨k, hk, rfl, rfl⟩ := hrel
    by_cases hlt : k < L.length
    · obtain ⟨x, hx⟩ := get_en hlt
      have c1 := s.snd hx
      have hpos := s.pos (by omega)
      subst hpos
      have hts : L.take (k + 1) = L.take k ++ [x] := by rw [List.take_add_one, hx]; rfl
      have hle := actD_le (L.take k)
      have hle2 : (L.take k).length ≤ k := List.length_take_le _ _
      cases hb : x.2.1 with
      | true =>
        rw [hb] at c1
        have E := Lib.hid (show actD (L.take (k + 1)) = actD (L.take k) + 1 by rw [hts, actD_snoc, hb]; rfl)
        clear hts hx hb
        go_wp2
        go_round
        case rel => exact ⟨k + 1, by omega, by go_num, by rw [E.out]; go_num⟩
        case measure => simp [intOf]; omega
      | false =>
        rw [hb] at c1
        have E := Lib.hid (show actD (L.take (k + 1)) = actD (L.take k) by rw [hts, actD_snoc, hb]; rfl)
        clear hts hx hb
        go_wp2
        go_round
        case rel => exact ⟨k + 1, by omega, by go_num, by rw [E.out]⟩
        case measure => simp [intOf]; omega
    · have E := Lib.hid (show actD (L.take k) = actD L by rw [List.take_of_length_le (by omega)])
      go_wp2
      go_ret
      rw [E.out]
      exact ⟨rfl, rfl⟩
end
end Go.Proofs.Ythgajdaiklfjhaa
