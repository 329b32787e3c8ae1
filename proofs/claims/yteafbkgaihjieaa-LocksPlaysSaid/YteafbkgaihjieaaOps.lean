/-
  The calls of a script as they lie in memory; what a script of tries and frees leaves.
-/
import Derived.Test.YteafbkgaihjieaaKnown
import Derived.Test.YteafbkgaihjieaaGen
import Derived.StillTailTactics
namespace Go.Proofs.Yteafbkgaihjieaa
open Go.RowKit

/-- A script of calls: a kind, who, a lock. -/
structure OpsAt (w : World) (a : Option Addr) (len b off : Nat) (K W L : Nat → Int) : Prop where
  at_ : 0 < len → a = some ⟨b, off, none⟩
  lt : 0 < len → b < w.heap.size
  ck : ∀ i, i < len → w.cell? ⟨b, off + i * 3, none⟩ = some (.int .i64 (K i))
  cw : ∀ i, i < len → w.cell? ⟨b, off + i * 3 + 1, none⟩ = some (.int .i64 (W i))
  cl : ∀ i, i < len → w.cell? ⟨b, off + i * 3 + 2, none⟩ = some (.int .i64 (L i))
  wle : ∀ i, i < len → W i ≤ 9223372036854775807
theorem OpsAt.below {w w' : World} {a : Option Addr} {len b off : Nat} {K W L : Nat → Int} (o : OpsAt w a len b off K W L) (h : Below w.heap.size w w') : OpsAt w' a len b off K W L where
  at_ := o.at_
  lt := fun hl => Nat.lt_of_lt_of_le (o.lt hl) h.size
  ck := fun i hi => (h.cell (p := ⟨b, off + i * 3, none⟩) (o.lt (by omega))).trans (o.ck i hi)
  cw := fun i hi => (h.cell (p := ⟨b, off + i * 3 + 1, none⟩) (o.lt (by omega))).trans (o.cw i hi)
  cl := fun i hi => (h.cell (p := ⟨b, off + i * 3 + 2, none⟩) (o.lt (by omega))).trans (o.cl i hi)
  wle := o.wle

def stepT (n : Nat) (h : Hold) (k who lock : Int) : Hold := if k = 1 then (freeF n h who lock).2 else (tryF n h who lock).2.2
def runT (n : Nat) (K W L : Nat → Int) : Nat → Hold
  | 0 => free
  | i + 1 => stepT n (runT n K W L i) (K i) (W i) (L i)

theorem St.drew {w0 w : World} {b n : Nat} {h : Hold} (s : St w0 w b n h) : St w0 w.drew b n h := ⟨⟨s.tab.row, s.tab.le, s.tab.ok⟩, s.below.drew, s.own⟩
theorem try_run {w0 w : World} {b n : Nat} {h : Hold} (s : St w0 w b n h) (k who lock : Int) (hwho : who ≤ 9223372036854775807) (hk : k ≠ 1) :
    Calls Try.prog 12 #[.pointer (some ⟨b, 0, none⟩), .int .i64 who, .int .i64 lock] w fun e w' => e = .returned (.tuple #[.bool (tryF n h who lock).1, .int .i64 (tryF n h who lock).2.1]) ∧ St w0 w' b n (stepT n h k who lock) := by
  have e : stepT n h k who lock = (tryF n h who lock).2.2 := by unfold stepT; rw [if_neg hk]
  rw [e]
  exact try_st s who lock hwho rfl
theorem free_run {w0 w : World} {b n : Nat} {h : Hold} (s : St w0 w b n h) (who lock : Int) (hwho : who ≤ 9223372036854775807) :
    Calls Try.prog 11 #[.pointer (some ⟨b, 0, none⟩), .int .i64 who, .int .i64 lock] w fun e w' => e = .returned (.int .i64 (freeF n h who lock).1) ∧ St w0 w' b n (stepT n h 1 who lock) := by
  have e : stepT n h 1 who lock = (freeF n h who lock).2 := by unfold stepT; rw [if_pos rfl]
  rw [e]
  exact free_st s who lock hwho rfl

/-- The greatest lock below m that anybody holds; -1: there is none. -/
def topF (h : Hold) : Nat → Int
  | 0 => -1
  | m + 1 => if 0 ≤ h m then (m : Int) else topF h m

theorem try_eq {w : World} {b n : Nat} {h : Hold} (t : Tab w b n h) (who lock : Int) (hwho : who ≤ 9223372036854775807) {r : Bool} {k : Int} {h' : Hold} (e : tryF n h who lock = (r, k, h')) :
    Calls Try.prog 12 #[.pointer (some ⟨b, 0, none⟩), .int .i64 who, .int .i64 lock] w fun e w' => e = .returned (.tuple #[.bool r, .int .i64 k]) ∧ Tab w' b n h' ∧ Only w w' b := by
  have := try_any b n h who lock w t hwho
  rwa [e] at this
theorem topF_spec (h : Hold) : ∀ m, 0 ≤ topF h m → ∃ T, T < m ∧ topF h m = (T : Int) ∧ 0 ≤ h T ∧ ∀ j, T < j → j < m → h j < 0
  | 0, hh => by simp [topF] at hh
  | m + 1, hh => by
    unfold topF at hh ⊢
    by_cases h0 : 0 ≤ h m
    · rw [if_pos h0]; exact ⟨m, by omega, rfl, h0, fun j h1 h2 => by omega⟩
    · rw [if_neg h0] at hh ⊢
      obtain ⟨T, h1, h2, h3, h4⟩ := topF_spec h m hh
      refine ⟨T, by omega, h2, h3, fun j h5 h6 => ?_⟩
      rcases Nat.lt_or_ge j m with h7 | h7
      · exact h4 j h5 h7
      · obtain rfl : j = m := by omega
        omega
theorem holder_in {n k : Nat} {h : Hold} (hk : k < n) : holderF n h (k : Int) = h k := by
  unfold holderF bad
  rw [if_neg (by simp; omega)]; simp
theorem Tab.only_other {w w' : World} {b b2 n : Nat} {h : Hold} (t : Tab w b n h) (o : Only w w' b2) (hne : b ≠ b2) : Tab w' b n h :=
  ⟨t.row.of_block (o.block b t.lt (fun e => hne (by cases e; rfl))), t.le, t.ok⟩
theorem Tab.below {w w' : World} {b n : Nat} {h : Hold} (t : Tab w b n h) (o : Below w.heap.size w w') : Tab w' b n h :=
  ⟨t.row.of_block (o.block b t.lt), t.le, t.ok⟩

theorem try_above {k j T : Nat} {h : Hold} (ok : OkH h) (h0 : 0 ≤ h T) (hTj : T < j) (hj : j < k) (ha : ∀ i, T < i → i < k → h i < 0) : tryF k h (h T) (j : Int) = (true, 0, upd h j (h T)) := by
  have hb : bad k (h T) (j : Int) = false := by unfold bad; simp; omega
  have hab : above k h (h T) (j : Int).toNat = false := (above_false _ _ _ _).2 fun i h1 h2 h3 => by
    simp at h1
    have := ha i (by omega) h2
    omega
  have hf : h (j : Int).toNat = -1 := by
    have := ha j hTj hj
    have := ok j
    simp; omega
  unfold tryF
  rw [hb, hab, if_neg (by simp), if_neg (by simp), if_pos hf]
  simp

set_option maxHeartbeats 1000000 in
theorem circle_any (n : Int) (a : Option Addr) (len cap bo off : Nat) (K W L : Nat → Int) (w : World) (o : OpsAt w a len bo off K W L) (hlen : len ≤ 9223372036854775807) :
    Calls Try.prog 3 #[.int .i64 n, .slice a len cap] w fun e w' => e = .returned (.bool true) ∧ Below w.heap.size w w' := by
  by_cases hl : 200 < len
  · go_enter Try.func3, Try.ntmps3
    go_wp2_with fail
    refine (known_any w).mono ?_
    rintro e w' ⟨rfl, hb⟩
    go_wp2_with fail
    go_ret
    exact ⟨rfl, hb⟩
  · go_enter Try.func3, Try.ntmps3
    go_wp2_with fail
    refine (new_st (Below.refl _ w) n rfl).mono ?_
    rintro e w1 ⟨rfl, s1⟩
    go_wp2_with fail
    generalize hB : w.heap.size = B at s1
    generalize hN : clampN n = N at s1
    go_loopw [20] (fun i wr => ∃ k : Nat, k ≤ len ∧ i = .int .i64 k ∧ St w wr B N (runT N K W L k)) (fun i _ => len - (intOf i).toNat)
    case atStart => exact ⟨0, Nat.zero_le _, rfl, s1⟩
    case round =>
      obtain ⟨k, hk, rfl, s⟩ := hrel
      by_cases hlt : k < len
      · have o' := o.below s.below
        have ck := o'.ck k hlt
        have cw := o'.cw k hlt
        have cl := o'.cl k hlt
        obtain rfl := o.at_ (by omega)
        by_cases hK : K k = 1
        · have q : (K k == 1) = true := by rw [hK]; rfl
          clear hK
          go_wp2_with fail
          go_still_tail 11, (by kernel_rfl)
          change wpList _ _ _ _ _ wr.drew
          go_wp2_with fail
          refine (free_run s.drew (W k) (L k) (o'.wle k hlt)).mono ?_
          rintro e w2 ⟨rfl, s2⟩
          go_wp2_with fail
          go_roundw
          case rel => exact ⟨k + 1, by omega, by go_num, by rw [runT, (beq_iff_eq.1 q)]; exact s2⟩
          case measure => simp [intOf]; omega
        · have q : (K k == 1) = false := beq_eq_false_iff_ne.2 hK
          have HK := Lib.hid hK; clear hK
          go_wp2_with fail
          go_still_tail 11, (by kernel_rfl)
          change wpList _ _ _ _ _ wr.drew
          go_wp2_with fail
          refine (try_run s.drew (K k) (W k) (L k) (o'.wle k hlt) HK.out).mono ?_
          rintro e w2 ⟨rfl, s2⟩
          go_wp2_with fail
          go_roundw
          case rel => exact ⟨k + 1, by omega, by go_num, s2⟩
          case measure => simp [intOf]; omega
      · go_wp2_with fail
        generalize runT N K W L k = h at s
        refine (locks_any B N h wr s.tab).mono ?_
        rintro e w' ⟨rfl, rfl⟩
        go_wp2_with fail
        go_loop [7, 56] (fun u v => ∃ k : Nat, k ≤ N ∧ v = .int .i64 k ∧ u = .int .i64 (topF h k)) (fun _ v => N - (intOf v).toNat)
        case atStart => exact ⟨0, Nat.zero_le _, rfl, rfl⟩
        case round =>
          obtain ⟨k, hk, rfl, rfl⟩ := hrel
          have hN := s.tab.le
          by_cases hlt : k < N
          · by_cases h0 : 0 ≤ h k
            · have e1 : topF h (k + 1) = k := by rw [topF, if_pos h0]
              have E1 := Lib.hid e1; clear e1
              go_wp2_with fail
              refine (holder_st s (k : Int) (k := h k) (holder_in hlt)).mono ?_
              rintro e w' ⟨rfl, rfl⟩
              go_wp2_with fail
              go_round
              case rel => exact ⟨k + 1, by omega, by go_num, by rw [E1.out]⟩
              case measure => simp [intOf]; omega
            · have e1 : topF h (k + 1) = topF h k := by rw [topF, if_neg h0]
              have E1 := Lib.hid e1; clear e1
              go_wp2_with fail
              refine (holder_st s (k : Int) (k := h k) (holder_in hlt)).mono ?_
              rintro e w' ⟨rfl, rfl⟩
              go_wp2_with fail
              go_round
              case rel => exact ⟨k + 1, by omega, by go_num, by rw [E1.out]⟩
              case measure => simp [intOf]; omega
          · obtain rfl : k = N := by omega
            by_cases ht : topF h k < 0
            · go_wp2_with fail
              refine (known_any wr).mono ?_
              rintro e w' ⟨rfl, hb⟩
              go_wp2_with fail
              go_ret
              exact ⟨rfl, s.below.trans (hb.mono s.below.size)⟩
            · obtain ⟨T, hT, hTe, hT0, hTa⟩ := topF_spec h k (by omega)
              rw [hTe]
              have HA := Lib.hid hTa; clear hTa
              have HE := Lib.hid hTe; clear hTe ht
              go_wp2_with fail
              rename_i wq _ _ _
              go_loopw [9] (fun v wr => ∃ j : Nat, j ≤ k ∧ T < j ∧ v = .int .i64 j ∧ St w wr B k h) (fun v _ => k - (intOf v).toNat)
              case atStart => exact ⟨T + 1, by omega, by omega, by go_num, s⟩
              case round =>
                obtain ⟨j, hj, hTj, rfl, s⟩ := hrel
                by_cases hlt : j < k
                · go_wp2_with fail
                  refine (locks_any B k h wr s.tab).mono ?_
                  rintro e w' ⟨rfl, rfl⟩
                  go_wp2_with fail
                  refine (copy_any B k h wr s.tab).mono ?_
                  rintro e w2 ⟨rfl, t2, b2⟩
                  have s2 : St w w2 B k h := ⟨s.tab.below b2, s.below.trans (b2.mono s.below.size), s.own⟩
                  go_wp2_with fail
                  refine (holder_st s2 (T : Int) (k := h T) (holder_in hT)).mono ?_
                  rintro e w' ⟨rfl, rfl⟩
                  go_wp2_with fail
                  refine (try_eq t2 (h T) (j : Int) (s.tab.ok T).2 (try_above s.tab.ok hT0 hTj hlt HA.out)).mono ?_
                  rintro e w3 ⟨rfl, t3, o3⟩
                  have s3' : St w w3 B k h := ⟨s2.tab.only_other o3 (by have := s.tab.lt; omega), below_only s2.below o3 s.below.size, s.own⟩
                  go_wp2_with fail
                  go_roundw
                  case rel => exact ⟨j + 1, by omega, by omega, by go_num, s3'⟩
                  case measure => simp [intOf]; omega
                · go_wp2_with fail
                  refine (locks_any B k h wr s.tab).mono ?_
                  rintro e w' ⟨rfl, rfl⟩
                  go_wp2_with fail
                  refine (known_any wr).mono ?_
                  rintro e w' ⟨rfl, hb⟩
                  go_wp2_with fail
                  go_ret
                  exact ⟨rfl, s.below.trans (hb.mono s.below.size)⟩
end Go.Proofs.Yteafbkgaihjieaa
