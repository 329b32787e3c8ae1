/-
  The walk of the law LocksOne.
-/
import Derived.Test.YteafbkgaihjieaaHeld
import Derived.Test.YteafbkgaihjieaaOpen
namespace Go.Proofs.Yteafbkgaihjieaa
open Go.RowKit

/-- What a slice of numbers that the call owns holds, by index. -/
theorem owned_at {w : World} {base : Nat} {v : Value} {l : List Int} (h : w.ownsRow base 3 1 v l.length (l.map (Value.int .i64))) :
    ∃ (a : Option Addr) (cap g : Nat), v = .slice a l.length cap ∧ l.length ≤ maxLen ∧ (0 < l.length → a = some ⟨g, 0, none⟩ ∧ base ≤ g ∧ g < w.heap.size) ∧ ∀ i, i < l.length → w.cell? ⟨g, i, none⟩ = some (.int .i64 (l.getD i 0)) := by
  have hcells := @World.ownsRow.cells _ _ _ _ _ _ _ h
  have hlt := h.lt
  rcases h.2 with ⟨rfl, hn⟩ | ⟨g, cap, cur, rfl, hb, _, hc, hm, _⟩
  · exact ⟨none, 0, 0, by rw [hn], by omega, fun hp => by omega, fun i hi => by omega⟩
  · refine ⟨some ⟨g, 0, none⟩, cap, g, rfl, by omega, fun _ => ⟨rfl, (hlt g rfl)⟩, fun i hi => ?_⟩
    have := hcells (g := g) rfl i (.int .i64 (l.getD i 0)) (by simp [List.getD, hi])
    have hadd : (⟨g, 0, none⟩ : Addr).add i = ⟨g, i, none⟩ := by unfold Addr.add; split <;> simp_all
    rwa [hadd] at this

/-- Lock L is who's, and no other lock is. -/
def Mine (who : Int) (L : Nat) (h : Hold) : Prop := h L = who ∧ ∀ j, j ≠ L → h j ≠ who
theorem mine_start {who : Int} {L : Nat} (h0 : 0 ≤ who) : Mine who L (upd free L who) :=
  ⟨by unfold upd; rw [if_pos rfl], fun j hj => by unfold upd free; rw [if_neg hj]; omega⟩
theorem mine_step {n : Nat} {who : Int} {L : Nat} {h : Hold} (h0 : 0 ≤ who) (m : Mine who L h) (k : Int) {other lock : Int} (hne : other ≠ who) : Mine who L (stepT n h k other lock) := by
  unfold stepT
  split
  · unfold freeF
    split
    · exact m
    · split
      · rename_i _ hq
        have hl : lock.toNat ≠ L := fun e => hne (by rw [← hq, e]; exact m.1)
        refine ⟨?_, fun j hj => ?_⟩
        · show upd h lock.toNat (-1) L = who
          unfold upd; rw [if_neg (fun e => hl e.symm)]; exact m.1
        · show upd h lock.toNat (-1) j ≠ who
          unfold upd; split
          · omega
          · exact m.2 j hj
      · exact m
  · unfold tryF
    split
    · exact m
    · split
      · exact m
      · split
        · rename_i _ _ hq
          have hl : lock.toNat ≠ L := fun e => by rw [e, m.1] at hq; omega
          refine ⟨?_, fun j hj => ?_⟩
          · show upd h lock.toNat other L = who
            unfold upd; rw [if_neg (fun e => hl e.symm)]; exact m.1
          · show upd h lock.toNat other j ≠ who
            unfold upd; split
            · exact hne
            · exact m.2 j hj
        · exact m
theorem mine_held {who : Int} {L : Nat} {h : Hold} (h0 : 0 ≤ who) (m : Mine who L h) : ∀ n, L < n → heldF h who n = [(L : Int)]
  | 0, hn => by omega
  | n + 1, hn => by
    rw [heldF_succ]
    by_cases e : L = n
    · subst e
      have : heldF h who L = [] := by
        unfold heldF
        rw [List.map_eq_nil_iff, List.filter_eq_nil_iff]
        intro j hj
        have := m.2 j (by have := List.mem_range.1 hj; omega)
        simp [this]
      rw [this, if_pos ⟨h0, m.1⟩]; rfl
    · rw [mine_held h0 m n (by omega), if_neg (fun hh => m.2 n (fun e' => e e'.symm) hh.2)]; rfl
theorem mine_free {n : Nat} {who : Int} {L : Nat} {h : Hold} (h0 : 0 ≤ who) (m : Mine who L h) (hL : L < n) : freeF n h who (L : Int) = (0, upd h L (-1)) := by
  unfold freeF bad
  rw [if_neg (by simp; omega), if_pos (by simpa using m.1)]; simp

theorem bad_try {n : Nat} {h : Hold} {who lock : Int} (hb : bad n who lock = true) : tryF n h who lock = (false, 2, h) := by unfold tryF; rw [hb]; rfl

set_option maxRecDepth 100000 in
set_option maxHeartbeats 1000000 in
theorem one_any (n who lock : Int) (a : Option Addr) (len cap bo off : Nat) (K W L : Nat → Int) (w : World) (o : OpsAt w a len bo off K W L) (hlen : len ≤ 9223372036854775807) (hwho : who ≤ 9223372036854775807) :
    Calls Try.prog 5 #[.int .i64 n, .int .i64 who, .int .i64 lock, .slice a len cap] w fun e w' => e = .returned (.bool true) ∧ Below w.heap.size w w' := by
  by_cases hl : 100 < len
  · go_enter Try.func5, Try.ntmps5
    go_wp2_with fail
    refine (known_any w).mono ?_
    rintro e w' ⟨rfl, hb⟩
    go_wp2_with fail
    go_ret
    exact ⟨rfl, hb⟩
  · cases hb : bad (clampN n) who lock with
    | true =>
      rcases bad_true hb with h1 | ⟨h1, h2⟩ | ⟨h1, h2, h3⟩
      all_goals
        go_enter Try.func5, Try.ntmps5
        go_wp2_with fail
        refine (new_st (Below.refl _ w) n rfl).mono ?_
        rintro e w1 ⟨rfl, s1⟩
        go_wp2_with fail
        refine (try_st s1 who lock hwho (bad_try hb)).mono ?_
        rintro e w2 ⟨rfl, s2⟩
        go_wp2_with (first
          | (go_at_call 9; refine (known_any w2).mono ?_; rintro e w' ⟨rfl, hb'⟩)
          | (go_at_call 13; refine (locks_any _ _ _ w2 s2.tab).mono ?_; rintro e w' ⟨rfl, rfl⟩))
        go_ret
        exact ⟨rfl, s2.below.trans (hb'.mono s2.below.size)⟩
    | false =>
      obtain ⟨h1, h2, h3⟩ := bad_false hb
      obtain ⟨M, rfl⟩ := Int.eq_ofNat_of_zero_le h2
      have e1 : tryF (clampN n) free who M = (true, 0, upd free M who) := by
        have hab : above (clampN n) free who (M : Int).toNat = false := (above_false _ _ _ _).2 fun i _ _ => by unfold free; omega
        unfold tryF; rw [hb, hab, if_neg (by simp), if_neg (by simp), if_pos (by rfl)]; simp
      have E1 := Lib.hid e1; clear e1
      have hMN : M < clampN n := by omega
      go_enter Try.func5, Try.ntmps5
      go_wp2_with fail
      refine (new_st (Below.refl _ w) n rfl).mono ?_
      rintro e w1 ⟨rfl, s1⟩
      go_wp2_with fail
      refine (try_st s1 who M hwho E1.out).mono ?_
      rintro e w2 ⟨rfl, s2⟩
      go_wp2_with fail
      generalize hB : w.heap.size = B at s2
      generalize hN : clampN n = N at *
      have m0 := mine_start (L := M) h1
      go_loopw [52] (fun i wr => ∃ (k : Nat) (h : Hold), k ≤ len ∧ i = .int .i64 k ∧ St w wr B N h ∧ Mine who M h) (fun i _ => len - (intOf i).toNat)
      case atStart => exact ⟨0, _, Nat.zero_le _, rfl, s2, m0⟩
      case round =>
        obtain ⟨k, h, hk, rfl, s, m⟩ := hrel
        by_cases hlt : k < len
        · have o' := o.below s.below
          have ck := o'.ck k hlt
          have cw := o'.cw k hlt
          have cl := o'.cl k hlt
          obtain rfl := o.at_ (by omega)
          by_cases hw : W k = who
          · have q : (W k == who) = true := by rw [hw]; exact beq_self_eq_true _
            clear hw
            go_wp2_with fail
            go_roundw
            case rel => exact ⟨k + 1, h, by omega, by go_num, s, m⟩
            case measure => simp [intOf]; omega
          · have q : (W k == who) = false := beq_eq_false_iff_ne.2 hw
            have HW := Lib.hid hw; clear hw
            rcases Decidable.em (K k = 1) with hK | hK
            case' inl =>
              have q2 : (K k == 1) = true := by rw [hK]; rfl
              clear hK
              go_wp2_with fail
              go_still_tail 11, (by kernel_rfl)
              change wpList _ _ _ _ _ wr.drew
              go_wp2_with fail
              refine (free_run s.drew (W k) (L k) (o'.wle k hlt)).mono ?_
              rintro e w3 ⟨rfl, s3⟩
              have m3 : Mine who M (stepT N h 1 (W k) (L k)) := mine_step h1 m 1 HW.out
              generalize stepT N h 1 (W k) (L k) = h' at s3 m3
            case' inr =>
              have q2 : (K k == 1) = false := beq_eq_false_iff_ne.2 hK
              have HK := Lib.hid hK; clear hK
              go_wp2_with fail
              go_still_tail 11, (by kernel_rfl)
              change wpList _ _ _ _ _ wr.drew
              go_wp2_with fail
              refine (try_run s.drew (K k) (W k) (L k) (o'.wle k hlt) HK.out).mono ?_
              rintro e w3 ⟨rfl, s3⟩
              have m3 : Mine who M (stepT N h (K k) (W k) (L k)) := mine_step h1 m (K k) HW.out
              generalize stepT N h (K k) (W k) (L k) = h' at s3 m3
            all_goals
              go_wp2_with fail
              refine (held_any B N h' who w3 s3.tab).mono ?_
              rintro e w4 ⟨v, rfl, hown, hb4⟩
              have s4 : St w w4 B N h' := ⟨s3.tab.below hb4, s3.below.trans (hb4.mono s3.below.size), s3.own⟩
              rw [mine_held h1 m3 N hMN] at hown
              obtain ⟨va, vcap, g, rfl, _, hva, hvc⟩ := owned_at hown
              obtain ⟨rfl, _, _⟩ := hva (by simp)
              have c0 : w4.cell? ⟨g, 0, none⟩ = some (.int .i64 (M : Int)) := hvc 0 (by simp)
              have eh : holderF N h' (M : Int) = who := by rw [holder_in hMN]; exact m3.1
              have EH := Lib.hid eh; clear eh hvc hva hown
              go_wp2_with fail
              refine (holder_st s4 (M : Int) EH.out).mono ?_
              rintro e w' ⟨rfl, rfl⟩
              go_wp2_with fail
              go_roundw
              case rel => exact ⟨k + 1, h', by omega, by go_num, s4, m3⟩
              case measure => simp [intOf]; omega
        · go_wp2_with fail
          refine (free_st s who (M : Int) hwho (mine_free h1 m hMN)).mono ?_
          rintro e w3 ⟨rfl, s3⟩
          have eh : holderF N (upd h M (-1)) (M : Int) = -1 := by rw [holder_in hMN]; unfold upd; rw [if_pos rfl]
          have EH := Lib.hid eh; clear eh
          go_wp2_with fail
          refine (holder_st s3 (M : Int) EH.out).mono ?_
          rintro e w' ⟨rfl, rfl⟩
          go_wp2_with fail
          refine (known_any w3).mono ?_
          rintro e w' ⟨rfl, hb'⟩
          go_wp2_with fail
          go_ret
          exact ⟨rfl, s3.below.trans (hb'.mono s3.below.size)⟩
end Go.Proofs.Yteafbkgaihjieaa
