/-
  The walks of Set and Clear.
-/
import Derived.Test.YtlnddehknpfliaaTab
namespace Go.Proofs.Ytlnddehknpfliaa
open Go.RowKit

theorem findO_set {n : Nat} {f : Fr} (o : OkF n f) {k : Nat} {p : Pg} (hk : k < n) (hp : mayB p = true) (hf : findO n f p = none) (h0 : (f k).1 = 0) (q : Pg) : findO n (updF f k p) q = if q = p then some k else findO n f q := by
  have o' := okF_set o hk hp hf
  have hp1 := mayB_true hp
  by_cases e : q = p
  · subst e
    rw [if_pos rfl]
    have := findO_at o' hk (by rw [updF_same]; omega)
    rwa [updF_same] at this
  · rw [if_neg e]
    cases h : findO n f q with
    | some j =>
      obtain ⟨h1, h2, h3⟩ := findO_some h
      have hjk : j ≠ k := by rintro rfl; rw [h2] at h0; exact h3 h0
      have e2 : updF f k p j = q := by rw [updF_other _ _ hjk]; exact h2
      have := findO_at o' h1 (by rw [e2]; exact h3)
      rwa [e2] at this
    | none =>
      cases h' : findO n (updF f k p) q with
      | none => rfl
      | some j =>
        obtain ⟨h1, h2, h3⟩ := findO_some h'
        by_cases hjk : j = k
        · subst hjk; rw [updF_same] at h2; exact absurd h2.symm e
        · rw [updF_other _ _ hjk] at h2; exact absurd h2 (findO_none h j h1 h3)
theorem findO_clear {n : Nat} {f : Fr} (o : OkF n f) {k : Nat} (hk : k < n) (h0 : (f k).1 ≠ 0) (q : Pg) : findO n (updF f k (0, 0)) q = if q = f k then none else findO n f q := by
  have o' := okF_clear o k
  by_cases e : q = f k
  · subst e
    rw [if_pos rfl]
    cases h' : findO n (updF f k (0, 0)) (f k) with
    | none => rfl
    | some j =>
      obtain ⟨h1, h2, h3⟩ := findO_some h'
      by_cases hjk : j = k
      · subst hjk; rw [updF_same] at h2; rw [← h2] at h0; exact absurd rfl h0
      · rw [updF_other _ _ hjk] at h2; exact absurd (o.inj j k h1 hk h2 h0) hjk
  · rw [if_neg e]
    cases h : findO n f q with
    | some j =>
      obtain ⟨h1, h2, h3⟩ := findO_some h
      have hjk : j ≠ k := by rintro rfl; exact e h2.symm
      have e2 : updF f k (0, 0) j = q := by rw [updF_other _ _ hjk]; exact h2
      have := findO_at o' h1 (by rw [e2]; exact h3)
      rwa [e2] at this
    | none =>
      cases h' : findO n (updF f k (0, 0)) q with
      | none => rfl
      | some j =>
        obtain ⟨h1, h2, h3⟩ := findO_some h'
        by_cases hjk : j = k
        · subst hjk; rw [updF_same] at h2; rw [← h2] at h3; exact absurd rfl h3
        · rw [updF_other _ _ hjk] at h2; exact absurd h2 (findO_none h j h1 h3)

section
variable {w w' : World} {base D F b n c : Nat} {f : Fr}
set_option maxHeartbeats 1000000 in
theorem set_any (s : TT w base D F b n c f) (fr pid page : Int) : Calls Try.prog 10 #[.pointer (some ⟨D, 0, none⟩), .int .i64 fr, .int .i64 pid, .int .i64 page] w fun e w' =>
    e = .returned (.int .i64 (setF n f fr (pid, page)).1) ∧ TT w' base D F b n c (setF n f fr (pid, page)).2 ∧ Two w w' F b := by
  have s0 := s.s0
  have s1 := s.s1
  have hn := s.le
  have hc := s.lec
  have bA : Below w.heap.size w (w.alloc (.cells #[.int .i64 pid, .int .i64 page] 57)) := below_new _ _
  cases hb : badI n fr with
  | true =>
    have e0 : setF n f fr (pid, page) = (2, f) := by unfold setF; rw [hb]; rfl
    rw [e0]; clear e0
    go_enter Try.func10, Try.ntmps10
    go_wp2_with (go_at_call 20; refine (has_any s fr).mono ?_; rintro e w' ⟨rfl, rfl⟩; rw [hb, if_pos rfl])
    go_ret
    exact ⟨rfl, s.below bA, two_below bA _ _⟩
  | false =>
    obtain ⟨h1, h2⟩ := badI_false hb
    obtain ⟨k, rfl⟩ := Int.eq_ofNat_of_zero_le h1
    have hk : k < n := by omega
    have hbad : badI n (k : Int) = false := hb
    cases hm : mayB (pid, page) with
    | false =>
      have e0 : setF n f k (pid, page) = (2, f) := by unfold setF; rw [hb, hm]; rfl
      rw [e0]; clear e0
      rcases mayB_false hm with h | ⟨h1, h2⟩ | ⟨h1, h2, h3⟩ | ⟨h1, h2, h3, h4⟩
      all_goals
        go_enter Try.func10, Try.ntmps10
        go_wp2_with (go_at_call 20; refine (has_any s _).mono ?_; rintro e w' ⟨rfl, rfl⟩; rw [hbad, if_neg (by decide)])
        go_ret
        exact ⟨rfl, s.below bA, two_below bA _ _⟩
    | true =>
      obtain ⟨m1, m2, m3, m4⟩ := mayB_true hm
      have t := s.below bA
      have t0 := t.s0
      have t1 := t.s1
      have c1 := t.own.fst hk
      have c2 := t.own.snd hk
      by_cases h0 : (f k).1 = 0
      · have H0 := Lib.hid h0
        rw [h0] at c1
        clear h0
        cases hf : findO n f (pid, page) with
        | some q =>
          have e0 : setF n f k (pid, page) = (8, f) := by unfold setF; rw [hb, hm, hf]; simp [H0.out]
          have E0 := Lib.hid e0; clear e0
          have hl : ∀ d, (Instr.lookup 52 (.map (some b)) (.agg #[.int .i64 pid, .int .i64 page]) true).run Try.prog ((w.alloc (.cells #[.int .i64 pid, .int .i64 page] 57)).drewN d) = .ok (.tuple #[.int .i64 q, .bool true]) ((w.alloc (.cells #[.int .i64 pid, .int .i64 page] 57)).drewN d) := fun d => by
            have := t.look (p := (pid, page)) (kdP_may hm) ((w.alloc (.cells #[.int .i64 pid, .int .i64 page] 57)).drewN d) rfl
            rw [hf] at this; exact this
          go_enter Try.func10, Try.ntmps10
          go_wp2_with (go_at_call 20; refine (has_any s _).mono ?_; rintro e w' ⟨rfl, rfl⟩; rw [hbad, if_neg (by decide)])
          go_quiet (fail)
          go_wp2
          go_ret
          rw [E0.out]
          exact ⟨rfl, (s.below (below_drewN bA _)), two_below (below_drewN bA _) _ _⟩
        | none =>
          have e0 : setF n f k (pid, page) = (0, updF f k (pid, page)) := by unfold setF; rw [hb, hm, hf]; simp [H0.out]
          have E0 := Lib.hid e0; clear e0
          have hl : ∀ d, (Instr.lookup 52 (.map (some b)) (.agg #[.int .i64 pid, .int .i64 page]) true).run Try.prog ((w.alloc (.cells #[.int .i64 pid, .int .i64 page] 57)).drewN d) = .ok (.tuple #[.int .i64 0, .bool false]) ((w.alloc (.cells #[.int .i64 pid, .int .i64 page] 57)).drewN d) := fun d => by
            have := t.look (p := (pid, page)) (kdP_may hm) ((w.alloc (.cells #[.int .i64 pid, .int .i64 page] 57)).drewN d) rfl
            rw [hf] at this; exact this
          have f1 := t.own.frozen (by omega) (k * 2)
          have f2 := t.own.frozen (by omega) (k * 2 + 1)
          go_enter Try.func10, Try.ntmps10
          go_wp2_with (go_at_call 20; refine (has_any s _).mono ?_; rintro e w' ⟨rfl, rfl⟩; rw [hbad, if_neg (by decide)])
          go_quiet (fail)
          go_wp2
          have p0 : (w.alloc (.cells #[.int .i64 pid, .int .i64 page] 57)).cell? ⟨w.heap.size, 0, none⟩ = some (.int .i64 pid) := by rw [World.cell?_alloc_new]; rfl
          have p1 : (w.alloc (.cells #[.int .i64 pid, .int .i64 page] 57)).cell? ⟨w.heap.size, 1, none⟩ = some (.int .i64 page) := by rw [World.cell?_alloc_new]; rfl
          have ne1 := t.neF
          have ne2 := s.ltF
          have ne3 : F ≠ w.heap.size := by omega
          go_region_held3 (fun w' => w'.cell? ⟨D, 0, none⟩ = some (.slice (some ⟨F, 0, none⟩) n c) ∧ w'.cell? ⟨w.heap.size, 0, none⟩ = some (.int .i64 pid) ∧ w'.cell? ⟨w.heap.size, 1, none⟩ = some (.int .i64 page))
            (go_keep) (fail)
          go_wp2_with fail
          have o2 := only_set (only_set (only_drewN (only_refl (w.alloc (.cells #[.int .i64 pid, .int .i64 page] 57)) F) (nq + 1)) (k * 2) (.int .i64 pid)) (k * 2 + 1) (.int .i64 page)
          have own2 := (t.own.below (below_drewN (Below.refl _ _) (nq + 1))).set2 hk pid page
          have ne4 := t.nebF
          have hPlt : w.heap.size < (w.alloc (.cells #[.int .i64 pid, .int .i64 page] 57)).heap.size := by simp
          have q0 := o2.cell p0 (fun e => ne3 (by cases e; rfl))
          have q1 := o2.cell p1 (fun e => ne3 (by cases e; rfl))
          clear s0 s1 t0 t1 c1 c2 f1 f2 p0 p1 hl
          generalize hW2 : (((w.alloc (.cells #[.int .i64 pid, .int .i64 page] 57)).drewN (nq + 1)).setCell ⟨F, k * 2, none⟩ (.int .i64 pid)).setCell ⟨F, k * 2 + 1, none⟩ (.int .i64 page) = W2 at *
          have srow2 := rowIs_only t.srow o2 ne1.symm
          have map2 := t.map.only o2 ne4
          have s1 : W2.cell? ⟨D, 1, none⟩ = some (.map (some b)) := srow2.cell (i := 1) (by omega)
          go_still_tail 6, (by kernel_rfl)
          change wpList _ _ _ _ _ W2.drew
          refine wpList_store_map W2.drew (by rfl) (.tmp 68) (.tmp 69) (.tmp 70) 52 (by rfl) Try.underlying52 KP (M := mapM n f) map2 (by rfl) (pid, page) (kdP_may hm) (by rfl) (.int .i64 k) (by rfl) ?_
          intro W3 map3 o3d
          have o3 := only_trans (only_drew (only_refl W2 b)) o3d
          go_wp2
          go_ret
          rw [E0.out]
          refine ⟨rfl, ⟨rowIs_only srow2 o3 t.neb.symm, ?_, ?_, s.mb, s.le, okF_set s.ok hk hm hf⟩, ?_⟩
          · exact own2.only o3 (fun _ => ne4.symm)
          · exact map3.congr fun q => by
              unfold putM mapM
              rw [findO_set s.ok hk hm hf H0.out q]
              split <;> rfl
          · exact two_trans (two_trans (two_below bA F b) (two_onlyF o2 b)) (two_onlyb o3 F)
      · have e0 : setF n f k (pid, page) = (80, f) := by unfold setF; rw [hb, hm]; simp [h0]
        have E0 := Lib.hid e0; clear e0
        have q : ((f k).1 == (0 : Int)) = false := beq_eq_false_iff_ne.2 h0
        clear h0
        go_enter Try.func10, Try.ntmps10
        go_wp2_with (go_at_call 20; refine (has_any s _).mono ?_; rintro e w' ⟨rfl, rfl⟩; rw [hbad, if_neg (by decide)])
        go_ret
        rw [E0.out]
        exact ⟨rfl, s.below bA, two_below bA _ _⟩

set_option maxHeartbeats 1000000 in
theorem clear_any (s : TT w base D F b n c f) (fr : Int) : Calls Try.prog 11 #[.pointer (some ⟨D, 0, none⟩), .int .i64 fr] w fun e w' =>
    e = .returned (.int .i64 (clearF n f fr).1) ∧ TT w' base D F b n c (clearF n f fr).2 ∧ Two w w' F b := by
  have s0 := s.s0
  have s1 := s.s1
  have hn := s.le
  have hc := s.lec
  cases hb : badI n fr with
  | true =>
    have e0 : clearF n f fr = (2, f) := by unfold clearF; rw [hb]; rfl
    rw [e0]; clear e0
    go_enter Try.func11, Try.ntmps11
    go_wp2_with (go_at_call 20; refine (has_any s fr).mono ?_; rintro e w' ⟨rfl, rfl⟩; rw [hb, if_pos rfl])
    go_ret
    exact ⟨rfl, s, two_refl _ _ _⟩
  | false =>
    obtain ⟨h1, h2⟩ := badI_false hb
    obtain ⟨k, rfl⟩ := Int.eq_ofNat_of_zero_le h1
    have hk : k < n := by omega
    have hbad : badI n (k : Int) = false := hb
    have c1 := s.own.fst hk
    have c2 := s.own.snd hk
    by_cases h0 : (f k).1 = 0
    · have e0 : clearF n f k = (7, f) := by unfold clearF; rw [hb]; simp [h0]
      have E0 := Lib.hid e0; clear e0
      rw [h0] at c1
      clear h0
      go_enter Try.func11, Try.ntmps11
      go_wp2_with (go_at_call 20; refine (has_any s _).mono ?_; rintro e w' ⟨rfl, rfl⟩; rw [hbad, if_neg (by decide)])
      go_ret
      rw [E0.out]
      exact ⟨rfl, s, two_refl _ _ _⟩
    · have e0 : clearF n f k = (0, updF f k (0, 0)) := by unfold clearF; rw [hb]; simp [h0]
      have E0 := Lib.hid e0; clear e0
      have H0 := Lib.hid h0
      have q : ((f k).1 == (0 : Int)) = false := beq_eq_false_iff_ne.2 h0
      have hm : mayB (f k) = true := by
        rcases s.ok.may k hk with h | h
        · rw [h] at h0; exact absurd rfl h0
        · exact h
      clear h0
      have ne1 := s.neF
      have ne4 := s.nebF
      have ne5 := s.neb
      go_enter Try.func11, Try.ntmps11
      go_wp2_with (go_at_call 20; refine (has_any s _).mono ?_; rintro e w' ⟨rfl, rfl⟩; rw [hbad, if_neg (by decide)])
      go_still_tail 11, (by kernel_rfl)
      change wpList _ _ _ _ _ w.drew
      refine wpList_del_map w.drew (by rfl) (.tmp 26) (.tmp 33) 52 (by rfl) Try.underlying52 KP (M := mapM n f) s.map (by rfl) (f k) (kdP_may hm) (by rfl) ?_
      intro W3 map3 o3d
      have o3 := only_trans (only_drew (only_refl w b)) o3d
      have srow3 := rowIs_only s.srow o3 ne5.symm
      have own3 := s.own.only o3 (fun _ => ne4.symm)
      have t0 : W3.cell? ⟨D, 0, none⟩ = some (.slice (some ⟨F, 0, none⟩) n c) := srow3.cell (i := 0) (by omega)
      have f1 := own3.frozen (by omega) (k * 2)
      have f2 := own3.frozen (by omega) (k * 2 + 1)
      have d1 := own3.fst hk
      have d2 := own3.snd hk
      clear s0 s1 c1 c2
      go_wp2
      go_ret
      rw [E0.out]
      have o4 := only_set (only_set (only_refl W3 F) (k * 2) (.int .i64 0)) (k * 2 + 1) (.int .i64 0)
      refine ⟨rfl, ⟨rowIs_only srow3 o4 ne1.symm, own3.set2 hk 0 0, (map3.only o4 ne4).congr fun q => ?_, s.mb, s.le, okF_clear s.ok k⟩, ?_⟩
      · unfold delM mapM
        rw [findO_clear s.ok hk H0.out q]
        split <;> rfl
      · exact two_trans (two_onlyb o3 F) (two_onlyF o4 b)
end
end Go.Proofs.Ytlnddehknpfliaa
