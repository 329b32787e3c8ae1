/-
  The walks of slices.Index, slices.Delete, and Remove.
-/
import Derived.Test.YthgajdaiklfjhaaOps
import Derived.Deep.RegionLaw
import Derived.Lib.SliceRun
namespace Go.Proofs.Ythgajdaiklfjhaa
open Go.RowKit

theorem first_at {xs : List Int} {f : Int} (h : f ∈ xs) : ∃ i : Nat, xs[i]? = some f ∧ ∀ j : Nat, j < i → xs[j]? ≠ some f := by
  induction xs with
  | nil => cases h
  | cons x r ih =>
    by_cases e : x = f
    · exact ⟨0, by simp [e], fun j hj => absurd hj (Nat.not_lt_zero j)⟩
    · rcases List.mem_cons.1 h with h1 | h1
      · exact absurd h1.symm e
      · obtain ⟨i, h2, h3⟩ := ih h1
        refine ⟨i + 1, by simpa using h2, fun j hj => ?_⟩
        cases j with
        | zero => simp [e]
        | succ j => simpa using h3 j (by omega)
theorem erase_at {xs : List Int} {f : Int} (hn : xs.Nodup) : ∀ {i : Nat}, xs[i]? = some f → xs.eraseIdx i = xs.filter (· != f) := by
  induction xs with
  | nil => intro i h; simp at h
  | cons x r ih =>
    intro i h
    rw [List.nodup_cons] at hn
    cases i with
    | zero =>
      simp at h
      subst h
      rw [List.eraseIdx_cons_zero, List.filter_cons_of_neg (by simp)]
      symm
      rw [List.filter_eq_self]
      intro y hy
      simp
      rintro rfl
      exact hn.1 hy
    | succ i =>
      have hr : r[i]? = some f := by simpa using h
      have hx : x ≠ f := by rintro rfl; exact hn.1 (List.mem_of_getElem? hr)
      rw [List.eraseIdx_cons_succ, List.filter_cons_of_pos (by simpa using hx), ih hn.2 hr]
theorem filter_fst (L : Rg) (f : Int) : (L.filter fun x => x.1 != f).map Prod.fst = (L.map Prod.fst).filter (· != f) := by
  rw [List.filter_map]; rfl

section
variable {w w' : World} {base D b n c g o : Nat} {a : Option Addr} {L : Rg} {xs : List Int}
theorem idx_any (h : RingAt w base 3 (some ⟨g, o, none⟩) n c g o xs) {f : Int} {i : Nat} (hi : xs[i]? = some f) (hf : ∀ j, j < i → xs[j]? ≠ some f) :
    Calls Try.prog 26 #[.slice (some ⟨g, o, none⟩) n c, .int .i64 f] w fun e w' => e = .returned (.int .i64 i) ∧ w = w' := by
  have hle := h.le
  have hlen := h.len
  have hil := (List.getElem?_eq_some_iff.1 hi).1
  have HF := Lib.hid hf
  have HI := Lib.hid hi
  have HLN := Lib.hid hlen
  have hin : i < n := by omega
  clear hf hi hlen hil
  go_enter Try.func26, Try.ntmps26
  go_wp2_with fail
  go_loop [8] (fun v => ∃ k : Nat, k ≤ i ∧ v = .int .i64 k) (fun v => n - (intOf v).toNat)
  case atStart => exact ⟨0, Nat.zero_le _, rfl⟩
  case round =>
    obtain ⟨k, hk, rfl⟩ := hrel
    obtain ⟨x, hx, hc⟩ := h.get (j := k) (by omega)
    by_cases hki : k = i
    · have hxf : x = f := by
        have := HI.out
        rw [← hki, hx] at this
        exact Option.some.inj this
      subst hxf
      have hkn : k < n := by omega
      have HE := Lib.hid hki
      clear hx hki
      go_wp2
      go_ret
      rw [HE.out]
      exact ⟨rfl, rfl⟩
    · have hne : x ≠ f := by
        rintro rfl
        exact HF.out k (by omega) hx
      have q : (f == x) = false := beq_eq_false_iff_ne.2 (fun e => hne e.symm)
      have hkn : k < n := by omega
      have hlt : k < i := by omega
      clear hx hne hki
      go_wp2
      go_round
      case rel => exact ⟨k + 1, by omega, by go_num⟩
      case measure => simp [intOf]; omega

set_option maxHeartbeats 2000000 in
set_option maxRecDepth 100000 in
theorem del_any (h : RingAt w base 3 (some ⟨g, o, none⟩) n c g o xs) (i j : Nat) (hj : j = i + 1) (hi : i < n) : Calls Try.prog 27 #[.slice (some ⟨g, o, none⟩) n c, .int .i64 i, .int .i64 j] w fun e w' =>
    e = .returned (.slice (some ⟨g, o, none⟩) (n - 1) c) ∧ RingAt w' base 3 (some ⟨g, o, none⟩) (n - 1) c g o (xs.eraseIdx i) ∧ Only w w' g := by
  obtain ⟨i0, hi0, hz0, hz1, hz2⟩ := info_parts info3
  have hle := h.le
  have hlen := h.len
  obtain ⟨cs, hcs1, hcs2, hcs3⟩ := h.blk (by simp)
  obtain ⟨news, hnews⟩ : ∃ news, news = (xs.drop j).map (Value.int .i64) := ⟨_, rfl⟩
  have hnl : news.length = n - j := by rw [hnews]; simp; omega
  have hget : ∀ t, t < n - j → news[t]? = (xs[j + t]?).map (Value.int .i64) := by
    intro t ht
    rw [hnews, List.getElem?_map, List.getElem?_drop]
  obtain ⟨A, hA, hsrc⟩ : ∃ A : Addr, (if c = j then some (⟨g, o, none⟩ : Addr) else some ⟨g, o + j, none⟩) = some A ∧ Hid (∀ t u, news[t]? = some u → w.drew.cell? (A.add t) = some u) := by
    by_cases hc : c = j
    · refine ⟨⟨g, o, none⟩, by simp [hc], Lib.hid fun t u hu => ?_⟩
      have h0 : news.length = 0 := by rw [hnl]; omega
      rw [List.length_eq_zero_iff.1 h0] at hu
      simp at hu
    · refine ⟨⟨g, o + j, none⟩, by simp [hc], Lib.hid fun t u hu => ?_⟩
      have ht : t < n - j := by
        have := (List.getElem?_eq_some_iff.1 hu).1
        omega
      rw [hget t ht, Option.map_eq_some_iff] at hu
      obtain ⟨x, hx, rfl⟩ := hu
      rw [addr_add, show o + j + t = o + (j + t) by omega]
      exact h.cell (j + t) x hx
  have s1 := Lib.hid (show news.length = (n - j) * 1 by rw [Nat.mul_one]; exact hnl)
  have s2 := Lib.hid (show ∀ u ∈ news, u.oneCell' = true by
    intro u hu
    rw [hnews] at hu
    obtain ⟨x, _, rfl⟩ := List.mem_map.1 hu
    rfl)
  have s3 := Lib.hid (show ∀ t, t < news.length → (w.drew.cell? ⟨g, o + i * 1 + t, none⟩).isSome = true ∧ w.drew.frozen? ⟨g, o + i * 1 + t, none⟩ = false by
    intro t ht
    rw [hnl] at ht
    rw [Nat.mul_one, Nat.add_assoc]
    exact ⟨h.there (j := i + t) (by omega), h.frozen (by omega) _⟩)
  obtain ⟨W1, hW1⟩ : ∃ W1, W1 = w.drew.setCells g (o + i * 1) news := ⟨_, rfl⟩
  obtain ⟨cs1, hb1, hb2⟩ : ∃ cs1, W1.heap[g]? = some (.cells cs1 3 (0, 0)) ∧ cs1.size = cs.size := by rw [hW1]; exact block_setCells g news (o + i * 1) w.drew cs 3 hcs1
  have hcl : ∀ ty, (Builtin.clear_ #[23] ty #[.slice (some ⟨g, o + (i + (n - j)), none⟩) (n - (i + (n - j))) (c - (i + (n - j)))]).run Try.prog W1 = .ok (.tuple #[]) (W1.setCells g (o + (i + (n - j))) (List.replicate (n - (i + (n - j))) (.int .i64 0))) :=
    fun ty => Lib.run_clear_slice W1 23 3 ty _ Try.underlying23 (fun w => by kernel_rfl) rfl rfl g (o + (i + (n - j))) _ _ (by omega) (fun t ht => by rw [cell_of_cells hb1, Array.getElem?_eq_getElem (by omega)]; rfl) (fun t ht => by simp [World.frozen?, hb1])
  have hfin : RingAt (W1.setCells g (o + (i + (n - j))) (List.replicate (n - (i + (n - j))) (.int .i64 0))) base 3 (some ⟨g, o, none⟩) (n - 1) c g o (xs.eraseIdx i) ∧ Only w (W1.setCells g (o + (i + (n - j))) (List.replicate (n - (i + (n - j))) (.int .i64 0))) g := by
    obtain ⟨cs2, hc1, hc2⟩ := block_setCells g (List.replicate (n - (i + (n - j))) (.int .i64 0)) (o + (i + (n - j))) W1 cs1 3 hb1
    refine ⟨⟨by rw [List.length_eraseIdx, hlen, if_pos hi], ⟨by omega, hle.2⟩, fun ad e => (by cases e; rfl), fun e => (by cases e), fun _ => ⟨cs2, hc1, hcs2, by omega⟩, fun t x hx => ?_⟩, ?_⟩
    · rw [List.getElem?_eraseIdx] at hx
      have htn : t < n - 1 := by
        split at hx
        · omega
        · have := (List.getElem?_eq_some_iff.1 hx).1
          omega
      rw [World.cell?_setCells_out g _ _ _ _ (fun _ _ => .inl (by show o + t < o + (i + (n - j)); omega)), hW1]
      split at hx
      · rw [World.cell?_setCells_out g _ _ _ _ (fun _ _ => .inl (by show o + t < o + i * 1; omega))]
        exact h.cell t x hx
      · obtain ⟨d, hd⟩ : ∃ d, t = i + d := ⟨t - i, by omega⟩
        have hdl : d < news.length := by omega
        have := World.cell?_setCells_in g news (o + i * 1) w.drew (fun k hk => (s3.out k hk).1) d hdl
        rw [show o + t = o + i * 1 + d by omega, this]
        have h2 := hget d (by omega)
        rw [List.getElem?_eq_getElem hdl, show j + d = t + 1 by omega, hx] at h2
        exact h2
    · rw [hW1]
      exact only_trans (only_trans (only_drew (only_refl w g)) (only_setCells g _ _ _)) (only_setCells g _ _ _)
  have HFIN := Lib.hid hfin
  have hW := Lib.hid hW1
  have hic : i ≤ c := by omega
  have hjc : j ≤ c := by omega
  have hjn : j ≤ n := by omega
  have hij : i ≤ j := by omega
  have qij : ((i : Int) == (j : Int)) = false := by rw [beq_eq_false_iff_ne]; omega
  have qij2 : (i == j) = false := by rw [beq_eq_false_iff_ne]; omega
  have HNN := Lib.hid (show i + (n - j) = n - 1 by omega)
  have hijn : i + (n - j) ≤ n := by omega
  have hcne : ¬ c = i + (n - j) := by omega
  have HJ := Lib.hid hj
  clear hj hW1 hb1 hb2 hfin hnews hnl hget hcs1 hcs3 hlen h
  go_enter Try.func27, Try.ntmps27
  go_wp2_with fail
  go_region_law (refine step_append_room rfl (.tmp 22) (.tmp 25) 23 rfl 3 i0 1 Try.underlying23 hi0 hz1 g o i c (by simp [Act.eval, Act.put]) A (n - j) (c - j) news (by simp [Act.eval, Act.put]) s1.out hsrc.out s2.out (by omega) s3.out ?_; rw [← hW.out])
  go_wp2_with fail
  go_ret
  refine ⟨?_, HFIN.out⟩
  rw [HNN.out]
  rfl
theorem mark_remove {L : Rg} (o : OkC L) (f y : Int) : delM (mapC L) f y = mapC (L.filter fun x => x.1 != f) y := by
  unfold delM mapC
  have o' := okC_filter o fun x => x.1 != f
  by_cases e : y = f
  · subst e
    rw [if_pos rfl, markO_none (hasC_false.2 fun x hx => ?_)]; rfl
    have := (List.mem_filter.1 hx).2
    simpa using this
  · rw [if_neg e, markO_congr o o' (g := y) (fun m => ?_)]
    rw [List.mem_filter]
    simp [e]
set_option maxHeartbeats 1000000 in
theorem remove_any (s : CK w base D b a n c g o L) {f : Int} (hf : kdI f) : Calls Try.prog 11 #[.pointer (some ⟨D, 0, none⟩), .int .i64 f] w fun e w' =>
    e = .returned (.int .i64 (removeC L f).1) ∧ CK w' base D b a (removeC L f).2.length c g o (removeC L f).2 ∧ Tri w w' D g b := by
  have hlen := s.len
  cases hh : hasC L f with
  | false =>
    have e0 : removeC L f = (7, L) := by unfold removeC; rw [hh]; rfl
    rw [e0, hlen]; clear e0
    have HH := Lib.hid hh
    clear hh hlen
    go_enter Try.func11, Try.ntmps11
    go_wp2_with (first
      | (go_at_call 25; refine (none_any s).mono ?_; rintro e w' ⟨rfl, rfl⟩)
      | (go_at_call 16; refine (has_any s hf).mono ?_; rintro e w1 ⟨rfl, b1⟩; rw [HH.out]))
    go_ret
    exact ⟨rfl, s.below b1, tri_below b1 _ _ _⟩
  | true =>
    obtain ⟨m, hm⟩ := hasC_true.1 hh
    obtain ⟨i, hi1, hi2⟩ := first_at (xs := L.map Prod.fst) (f := f) (List.mem_map.2 ⟨_, hm, rfl⟩)
    have hil := (List.getElem?_eq_some_iff.1 hi1).1
    rw [List.length_map, hlen] at hil
    have hera := erase_at s.ok.nd hi1
    rw [← filter_fst] at hera
    have hel : (L.filter fun x => x.1 != f).length = n - 1 := by
      have := congrArg List.length hera
      rw [List.length_eraseIdx, List.length_map, List.length_map, hlen, if_pos hil] at this
      exact this.symm
    have e0 : removeC L f = (0, L.filter fun x => x.1 != f) := by unfold removeC; rw [hh]; rfl
    have E0 := Lib.hid e0
    have HH := Lib.hid hh
    have HI1 := Lib.hid hi1
    have HI2 := Lib.hid hi2
    have HE := Lib.hid hera
    have HEL := Lib.hid hel
    have hle := s.ring.le
    have hap := s.ring.pos (by omega)
    subst hap
    clear e0 hh hi1 hi2 hera hel hm hlen
    go_enter Try.func11, Try.ntmps11
    go_wp2_with (first
      | (go_at_call 25; refine (none_any s).mono ?_; rintro e w' ⟨rfl, rfl⟩))
    refine (has_any s hf).mono ?_
    rintro e w1 ⟨rfl, b1⟩
    rw [HH.out]
    have s1 := s.below b1
    have r1 := s1.s1
    go_wp2_with (at_delete; refine wpList_del_map _ rfl (.tmp 17) (.tmp 18) 48 rfl Try.underlying48 KI (M := mapC L) s1.map rfl f hf rfl ?_)
    intro w2 t2 o2
    have hDb := s1.neb
    have hgb := s1.nebg (by simp)
    have sr2 := rowIs_only s1.srow o2 hDb.symm
    have ri2 := s1.ring.only o2 (fun _ => hgb.symm)
    have m0 : w2.cell? ⟨D, 0, none⟩ = some (.slice (some ⟨g, o, none⟩) n c) := sr2.cell (i := 0) (by omega)
    have T2 := Lib.hid (tri_trans (tri_below b1 D g b) (tri_only o2 (.inr (.inr rfl))) (.inl rfl))
    clear r1 b1
    go_wp2_with fail
    refine (idx_any ri2 HI1.out HI2.out).mono ?_
    rintro e w' ⟨rfl, rfl⟩
    have hj : (i : Int) + 1 = ((i + 1 : Nat) : Int) := by omega
    have HJ := Lib.hid hj
    clear hj
    go_wp2_with fail
    rw [HJ.out]
    refine (del_any ri2 i (i + 1) rfl hil).mono ?_
    rintro e w3 ⟨rfl, ri3, o3⟩
    have hDg := s1.neg
    have sr3 := rowIs_only sr2 o3 hDg.symm
    have mp3 := t2.only o3 hgb
    have m0 : w3.cell? ⟨D, 0, none⟩ = some (.slice (some ⟨g, o, none⟩) n c) := sr3.cell (i := 0) (by omega)
    have m1 := sr3.frozen 0
    have on := only_set (only_refl w3 D) 0 (.slice (some ⟨g, o, none⟩) (n - 1) c)
    have hfin : CK (w3.setCell ⟨D, 0, none⟩ (.slice (some ⟨g, o, none⟩) (n - 1) c)) base D b (some ⟨g, o, none⟩) (n - 1) c g o (L.filter fun x => x.1 != f) := by
      refine ⟨(sr3.set 0 _).congr (fun k hk => ?_), by rw [← HE.out]; exact ri3.only on (fun _ => hDg), (mp3.congr (mark_remove s.ok f)).only on hDb, s.mb, okC_filter s.ok _, fun e => by cases e⟩
      rcases (show k = 0 ∨ k = 1 by omega) with rfl | rfl <;> rfl
    have HF := Lib.hid (And.intro hfin (tri_trans (tri_trans T2.out (tri_only o3 (.inr (.inl rfl))) (.inl rfl)) (tri_only on (.inl rfl)) (.inl rfl)))
    clear hfin on ri3 sr3 mp3
    go_wp2_with fail
    go_ret
    rw [E0.out]
    refine ⟨rfl, ?_, HF.out.2⟩
    show CK _ base D b _ (L.filter fun x => x.1 != f).length c g o (L.filter fun x => x.1 != f)
    rw [HEL.out]
    exact HF.out.1
end
end Go.Proofs.Ythgajdaiklfjhaa
