/-
  The walks of the document's Add, Remove, Touch.
-/
import Derived.Test.YthgajdaiklfjhaaDoc
namespace Go.Proofs.Ythgajdaiklfjhaa
open Go.RowKit

theorem info61 : (Try.prog.info? 61).map (fun i => (i.zero, i.size, i.bytes)) = some (some (.agg #[.int .i64 0, .bool false, .bool false]), 3, 16) := by kernel_rfl
theorem elem43 : Try.prog.elem 43 = 61 := by kernel_rfl
/-- What a call of the document's leaves: the ring, and which blocks turned. -/
def DTurn (w w' : World) (base R X : Nat) (L' : Rg) : Prop := ∃ a' c' X', DK w' base R a' c' X' L' ∧ Tri w w' R X X
section
variable {w w' : World} {base R X c : Nat} {a : Option Addr} {L : Rg}
theorem DK.turn (s : DK w base R a c X L) : DTurn w w base R X L := ⟨a, c, X, s, tri_refl _ _ _ _⟩
/-- Behind a first append onto an empty row. -/
theorem below_first {w w1 : World} (hg : (w.alloc (.cells #[] 61)).grownBy w1 (some w.heap.size)) : Below w.heap.size w w1 :=
  (below_new w _).grown hg (by simp) (fun k hk => by cases hk; exact Nat.le_refl _)
theorem below_second {w wb w2 : World} (b1 : Below w.heap.size w wb) {v1 : Value} (hat : v1.ownBlock = some w.heap.size ∨ v1.ownBlock = some (w.heap.size + 1)) (hg : wb.grownBy w2 v1.ownBlock) : Below w.heap.size w w2 :=
  b1.grown hg b1.size (fun k hk => by
    rcases hat with e | e <;> (rw [hk] at e; cases e; omega))
set_option maxHeartbeats 1000000 in
theorem doc_add (s : DK w base R a c X L) (hb : base ≤ w.heap.size) (hn : L.length ≤ 1000000) (f : Int) {e : Int} {L' : Rg} (h : addC L f = (e, L')) :
    Calls Try.prog 20 #[.pointer (some ⟨R, 0, none⟩), .int .i64 f] w fun r w' => r = .returned (.int .i64 e) ∧ DTurn w w' base R X L' := by
  have r0 := s.r0
  by_cases h0 : f < 0
  · have e0 : addC L f = (2, L) := by unfold addC; rw [if_pos h0]
    rw [e0] at h
    cases h
    have HS := Lib.hid s.turn
    clear e0
    go_enter Try.func20, Try.ntmps20
    go_wp2
    go_ret
    exact ⟨rfl, HS.out⟩
  · have hh := findO_has L f
    cases hf : findO L f with
    | some k =>
      have e0 : addC L f = (8, L) := by unfold addC; rw [if_neg h0, ← hh, hf]; rfl
      rw [e0] at h
      cases h
      have HS := Lib.hid s.turn
      have E := Lib.hid (show findI L f = (k : Int) by unfold findI; rw [hf])
      have hk0 : (0 : Int) ≤ (k : Int) := by omega
      clear e0 hf hh
      go_enter Try.func20, Try.ntmps20
      go_wp2_with (go_at_call 31; refine (find_any s hn f).mono ?_; rintro e w' ⟨rfl, rfl⟩; rw [E.out])
      go_ret
      exact ⟨rfl, HS.out⟩
    | none =>
      have hh' : hasC L f = false := by rw [← hh, hf]; rfl
      have e0 : addC L f = (0, L ++ [(f, (true, true))]) := by unfold addC; rw [if_neg h0, hh']; rfl
      rw [e0] at h
      cases h
      have E := Lib.hid (show findI L f = -1 by unfold findI; rw [hf])
      have HOK := Lib.hid (okC_add s.ok (by omega) hh' (true, true))
      obtain ⟨i0, hi, hz0, hz1, hz2⟩ := info_parts info61
      have bE := below_new w (.cells #[] 61)
      have HE := Lib.hid (own_empty w 61 3 hb)
      have HR := Lib.hid (s.own.rd.below bE)
      have HO := Lib.hid (cellsR_one L)
      have HBB := Lib.hid hb
      have hlc := s.lec
      have hRl := s.row.lt
      have rE := (bE.cell (p := ⟨R, 0, none⟩) hRl).trans r0
      clear e0 hf hh hh'
      go_enter Try.func20, Try.ntmps20
      go_wp2_with (first
        | (go_at_call 31; refine (find_any s hn f).mono ?_; rintro e w' ⟨rfl, rfl⟩; rw [E.out])
        | (at_builtin; refine wpList_append_rd _ rfl (.tmp 14) (.tmp 18) 43 rfl base 61 i0 _ 3 16 Try.underlying43 hi hz0 hz1 hz2 rfl (by decide) (.slice (some ⟨w.heap.size, 0, none⟩) 0 0) 0 [] rfl HE.out a L.length c (cellsR L) rfl HR.out HO.out (by unfold maxLen; omega) (by omega) (by have := HBB.out; simp; omega) ?_))
      intro v1 w1 hown1 hgrow1 hat1 hnil1
      have b1 := below_first hgrow1
      have HB1 := Lib.hid b1
      have HAT := Lib.hid (show v1.ownBlock = some w.heap.size ∨ v1.ownBlock = some (w.heap.size + 1) by
        rcases hat1 with e | e
        · exact .inl e
        · exact .inr (e.trans (by simp)))
      have bA := below_alloc b1 (.cells #[.int .i64 f, .bool true, .bool true] 61)
      have HO1 := Lib.hid (hown1.alloc (.cells #[.int .i64 f, .bool true, .bool true] 61))
      have HR2 := Lib.hid (rd_new w1 #[.int .i64 f, .bool true, .bool true] 61 3 1 rfl)
      have HBA := Lib.hid bA
      have hsz1 := b1.size
      clear hown1 hgrow1 hat1 hnil1 b1 bA bE
      go_wp2_with (at_builtin; refine wpList_append_rd _ rfl (.tmp 19) (.tmp 22) 43 rfl base 61 i0 _ 3 16 Try.underlying43 hi hz0 hz1 hz2 rfl (by decide) v1 L.length (cellsR L) rfl HO1.out (some ⟨w1.heap.size, 0, none⟩) 1 1 _ rfl HR2.out (by simp [Value.oneCell']) (by unfold maxLen; omega) (by omega) (by have := HBB.out; simp; omega) ?_)
      intro v2 w2 hown2 hgrow2 hat2 hnil2
      have b2 := below_second HBA.out HAT.out hgrow2
      obtain ⟨a', c', X', st, on⟩ := s.store b2 (L' := L ++ [(f, (true, true))]) (v := v2) (n := L.length + 1) (by simp) (by
        have e : cellsR (L ++ [(f, (true, true))]) = cellsR L ++ [.int .i64 f, .bool true, .bool true] := cellsR_snoc _ _ _ _
        rw [e]; exact hown2) HOK.out hnil2
      obtain ⟨av, cv, gv, rfl, _⟩ := own_at hown2
      have HF := Lib.hid (show DTurn w (w2.setCell ⟨R, 0, none⟩ (.slice av (L.length + 1) cv)) base R X (L ++ [(f, (true, true))]) from ⟨a', c', X', st, tri_only on (.inl rfl)⟩)
      have m0 := (b2.cell (p := ⟨R, 0, none⟩) s.row.lt).trans r0
      have m1 : w2.frozen? ⟨R, 0, none⟩ = false := (b2.frozen (p := ⟨R, 0, none⟩) s.row.lt).trans (s.row.frozen 0)
      clear hown2 hgrow2 hat2 hnil2 st on b2
      go_wp2_with fail
      go_ret
      exact ⟨rfl, HF.out⟩
set_option maxHeartbeats 1000000 in
theorem doc_touch (s : DK w base R a c X L) (hR : base ≤ R) (hn : L.length ≤ 1000000) (f : Int) {e : Int} {L' : Rg} (h : touchC L f = (e, L')) :
    Calls Try.prog 22 #[.pointer (some ⟨R, 0, none⟩), .int .i64 f] w fun r w' => r = .returned (.int .i64 e) ∧ DTurn w w' base R X L' := by
  have r0 := s.r0
  have hh := findO_has L f
  cases hf : findO L f with
  | none =>
    have e0 : touchC L f = (7, L) := by unfold touchC; rw [← hh, hf]; rfl
    rw [e0] at h
    cases h
    have HS := Lib.hid s.turn
    have E := Lib.hid (show findI L f = -1 by unfold findI; rw [hf])
    clear e0 hf hh
    go_enter Try.func22, Try.ntmps22
    go_wp2_with (go_at_call 31; refine (find_any s hn f).mono ?_; rintro e w' ⟨rfl, rfl⟩; rw [E.out])
    go_ret
    exact ⟨rfl, HS.out⟩
  | some k =>
    obtain ⟨x, hx, hxf⟩ := findO_some hf
    have hk := (List.getElem?_eq_some_iff.1 hx).1
    have hm := set_at s.ok.nd hx hxf
    have e0 : touchC L f = (0, L.map (touchE f)) := by unfold touchC; rw [← hh, hf]; rfl
    rw [e0] at h
    cases h
    have E := Lib.hid (show findI L f = (k : Int) by unfold findI; rw [hf])
    have hk0 : (0 : Int) ≤ (k : Int) := by omega
    have hpos := s.pos (by omega)
    subst hpos
    have c1 := s.trd hx
    have f1 := s.own.frozen (by omega) (k * 3 + 2)
    have hlc := s.lec
    have HF := Lib.hid (show DTurn w (w.setCell ⟨X, k * 3 + 2, none⟩ (.bool true)) base R X (L.map (touchE f)) from by
      have hl : (L.map (touchE f)).length = L.length := by rw [List.length_map]
      refine ⟨some ⟨X, 0, none⟩, c, X, ⟨?_, ?_, okC_touch s.ok f, fun e => by cases e⟩, tri_only (only_set (only_refl w X) _ _) (.inr (.inl rfl))⟩
      · rw [hl]; exact s.row.setOther (a := ⟨X, k * 3 + 2, none⟩) (s.neX (by omega)).symm _
      · rw [hl, ← hm, ← cellsR_set hx]
        exact s.own.set (by omega) (k * 3 + 2) _ (by omega))
    clear e0 hf hh hm hx hxf
    go_enter Try.func22, Try.ntmps22
    go_wp2_with (go_at_call 31; refine (find_any s hn f).mono ?_; rintro e w' ⟨rfl, rfl⟩; rw [E.out])
    go_ret
    exact ⟨rfl, HF.out⟩
set_option maxHeartbeats 2000000 in
set_option maxRecDepth 100000 in
theorem doc_remove (s : DK w base R a c X L) (hb : base ≤ w.heap.size) (hn : L.length ≤ 1000000) (f : Int) {e : Int} {L' : Rg} (h : removeC L f = (e, L')) :
    Calls Try.prog 21 #[.pointer (some ⟨R, 0, none⟩), .int .i64 f] w fun r w' => r = .returned (.int .i64 e) ∧ DTurn w w' base R X L' := by
  have r0 := s.r0
  have hh := findO_has L f
  cases hf : findO L f with
  | none =>
    have e0 : removeC L f = (7, L) := by unfold removeC; rw [← hh, hf]; rfl
    rw [e0] at h
    cases h
    have HS := Lib.hid s.turn
    have E := Lib.hid (show findI L f = -1 by unfold findI; rw [hf])
    clear e0 hf hh
    go_enter Try.func21, Try.ntmps21
    go_wp2_with (go_at_call 31; refine (find_any s hn f).mono ?_; rintro e w' ⟨rfl, rfl⟩; rw [E.out])
    go_ret
    exact ⟨rfl, HS.out⟩
  | some k =>
    obtain ⟨x, hx, hxf⟩ := findO_some hf
    have hk := (List.getElem?_eq_some_iff.1 hx).1
    have hm := out_at s.ok.nd hx hxf
    have e0 : removeC L f = (0, L.filter fun x => x.1 != f) := by unfold removeC; rw [← hh, hf]; rfl
    rw [e0] at h
    cases h
    have E := Lib.hid (show findI L f = (k : Int) by unfold findI; rw [hf])
    have hk0 : (0 : Int) ≤ (k : Int) := by omega
    have hpos := s.pos (by omega)
    subst hpos
    have hlc := s.lec
    obtain ⟨i0, hi, hz0, hz1, hz2⟩ := info_parts info61
    obtain ⟨n, hnn⟩ : ∃ n, L.length = n := ⟨_, rfl⟩
    have hto := run_slice_to Try.underlying43 elem43 hi X 0 n c k (by omega)
    obtain ⟨A2, hfrom, hrd2⟩ := run_slice_from Try.underlying43 elem43 hi X 0 n c (k + 1) (by omega) (by omega)
    have hrd := s.own.rd
    rw [hnn] at hrd r0 hk hn hlc
    have H1 := Lib.hid (hrd.take (k := k) (by omega))
    rw [hz1] at hrd2
    have H2 := Lib.hid hrd2
    have HR := Lib.hid hrd
    have hsz : (cellsR L).take (k * 3) ++ (cellsR L).drop ((k + 1) * 3) = cellsR (L.filter fun x => x.1 != f) := by rw [cellsR_take, cellsR_drop, ← cellsR_append, hm]
    have hln : k + (n - (k + 1)) = (L.filter fun x => x.1 != f).length := by rw [← hm, List.length_append, List.length_take, List.length_drop, hnn]; omega
    have HLN := Lib.hid hln
    have HZ := Lib.hid hsz
    have hRl := s.row.lt
    have fzR := s.row.frozen 0
    have HK := Lib.hid (show ((k : Int) + 1) = ((k + 1 : Nat) : Int) by omega)
    have hfrom' := fun W => by have := hfrom W; rw [← HK.out] at this; exact this
    have hk1 : IntKind.i64.wrap ((k : Int) + 1) = (k : Int) + 1 := by rw [IntKind.wrap_i64]; omega
    have HOK := Lib.hid (okC_filter s.ok fun x => x.1 != f)
    have HNN := Lib.hid hnn
    have HB0 := Lib.hid hb
    have hFA := find_any s (by rw [hnn]; exact hn) f
    rw [E.out] at hFA
    have HFA := Lib.hid hFA
    clear hrd2 hrd hsz hfrom hln hnn hm hx hxf hf hh e0 hFA
    go_enter Try.func21, Try.ntmps21
    go_wp2_with (go_at_call 31; refine HFA.out.mono ?_; rintro e w' ⟨rfl, rfl⟩)
    have hE : (w.alloc (.cells #[] 61)).drew.ownsRow base 61 3 (.slice (some ⟨w.heap.size, 0, none⟩) 0 0) 0 [] := own_empty w 61 3 HB0.out
    have hbE : Below w.heap.size w (w.alloc (.cells #[] 61)).drew := (below_alloc (Below.refl _ _) _).drew
    have hA : Rd (w.alloc (.cells #[] 61)).drew 3 (some ⟨X, 0, none⟩) k ((cellsR L).take (k * 3)) := H1.out.below hbE
    have hB : ∀ w1 : World, (w.alloc (.cells #[] 61)).drew.grownBy w1 (some w.heap.size) → Below w.heap.size w w1 := fun _ hg => hbE.grown hg (by simp) (fun k hk => by cases hk; exact Nat.le_refl _)
    have hB2 : ∀ w1 : World, (w.alloc (.cells #[] 61)).drew.grownBy w1 (some w.heap.size) → Rd w1 3 A2 (n - (k + 1)) ((cellsR L).drop ((k + 1) * 3)) := fun _ hg => H2.out _ _ (HR.out.below (hB _ hg))
    have hO : ∀ k, ∀ u ∈ (cellsR L).take k, u.oneCell' = true := fun k u hu => cellsR_one L u (List.mem_of_mem_take hu)
    have hO2 : ∀ k, ∀ u ∈ (cellsR L).drop k, u.oneCell' = true := fun k u hu => cellsR_one L u (List.mem_of_mem_drop hu)
    have HN1 := Lib.hid (Nat.le_trans HB0.out hbE.size)
    have HN2 := Lib.hid (fun (w1 : World) (hg : (w.alloc (.cells #[] 61)).drew.grownBy w1 (some w.heap.size)) => Nat.le_trans HB0.out (hB w1 hg).size)
    have HS1 := Lib.hid (fun (w1 : World) (hg : (w.alloc (.cells #[] 61)).drew.grownBy w1 (some w.heap.size)) => And.intro (((hB w1 hg).cell (p := ⟨R, 0, none⟩) hRl).trans r0) (((hB w1 hg).frozen (p := ⟨R, 0, none⟩) hRl).trans fzR))
    have HB3 := Lib.hid (fun (w1 w2 : World) (v1 : Value) (hg : (w.alloc (.cells #[] 61)).drew.grownBy w1 (some w.heap.size)) (hat : v1.ownBlock = (Value.slice (some ⟨w.heap.size, 0, none⟩) 0 0).ownBlock ∨ v1.ownBlock = some (w.alloc (.cells #[] 61)).drew.heap.size) (hg2 : w1.grownBy w2 v1.ownBlock) =>
      show Below w.heap.size w w2 from (hB w1 hg).grown hg2 (hB w1 hg).size (fun k hk => by
        rcases hat with e | e
        · rw [hk] at e; cases e; exact Nat.le_refl _
        · rw [hk] at e; cases e; exact hbE.size))
    have HS2 := Lib.hid (fun (w1 w2 : World) (v1 : Value) (hg : (w.alloc (.cells #[] 61)).drew.grownBy w1 (some w.heap.size)) (hat : v1.ownBlock = (Value.slice (some ⟨w.heap.size, 0, none⟩) 0 0).ownBlock ∨ v1.ownBlock = some (w.alloc (.cells #[] 61)).drew.heap.size) (hg2 : w1.grownBy w2 v1.ownBlock) =>
      And.intro (((HB3.out w1 w2 v1 hg hat hg2).cell (p := ⟨R, 0, none⟩) hRl).trans r0) (((HB3.out w1 w2 v1 hg hat hg2).frozen (p := ⟨R, 0, none⟩) hRl).trans fzR))
    have HE := Lib.hid hE; clear hE
    have HA := Lib.hid hA; clear hA
    have HB := Lib.hid hB; clear hB
    have HB2 := Lib.hid hB2; clear hB2
    have HO := Lib.hid hO; clear hO
    have HO2 := Lib.hid hO2; clear hO2
    go_region_law (((first
        | ((refine step_append_rd _ (by rfl) (.tmp 12) (.tmp 18) 43 (by rfl) base 61 i0 _ 3 16 Try.underlying43 hi hz0 hz1 hz2 rfl (by omega) (.slice (some ⟨w.heap.size, 0, none⟩) 0 0) 0 [] (by rfl) HE.out (some ⟨X, 0, none⟩) k c ((cellsR L).take (k * 3)) (by rfl) HA.out (HO.out _) (by unfold maxLen; omega) (by omega) HN1.out ?_; intro v1 w1 hown1 hgrow1 hat1 hnil1; obtain ⟨cw1, fw1⟩ := HS1.out _ hgrow1))
        | ((refine step_append_rd _ (by rfl) (.tmp 19) (.tmp 26) 43 (by rfl) base 61 i0 _ 3 16 Try.underlying43 hi hz0 hz1 hz2 rfl (by omega) v1 (0 + k) ([] ++ (cellsR L).take (k * 3)) (by rfl) hown1 A2 (n - (k + 1)) (c - (k + 1)) ((cellsR L).drop ((k + 1) * 3)) (by rfl) (HB2.out _ hgrow1) (HO2.out _) (by unfold maxLen; omega) (by omega) (HN2.out _ hgrow1) ?_; intro v2 w2 hown2 hgrow2 hat2 hnil2; have hown3 := hown2; obtain ⟨av, cv, gv, rfl, _⟩ := own_at hown2; obtain ⟨cw2, fw2⟩ := HS2.out _ _ _ hgrow1 hat1 hgrow2)))))
    all_goals
      have b2 := HB3.out _ _ _ hgrow1 hat1 hgrow2
      obtain ⟨a', c', X', st, on⟩ := s.store b2 (L' := L.filter fun x => x.1 != f) (v := .slice av (0 + k + (n - (k + 1))) cv) (n := 0 + k + (n - (k + 1))) (by rw [Nat.zero_add]; exact HLN.out) (by rw [← HZ.out]; exact hown3) HOK.out (by
        intro e
        have h1 := hnil2.1 e
        have h2 := hnil1.1 h1.1
        cases h2.1)
      have HF := Lib.hid (show DTurn w (w2.setCell ⟨R, 0, none⟩ (.slice av (0 + k + (n - (k + 1))) cv)) base R X (L.filter fun x => x.1 != f) from ⟨a', c', X', st, tri_only on (.inl rfl)⟩)
      simp only [Nat.zero_add] at HF
      clear hown1 hown2 hown3 hgrow1 hgrow2 hat1 hat2 hnil1 hnil2 st on b2 cw1 fw1 cw2 fw2 hto hfrom'
      go_wp2
      go_ret
      exact ⟨rfl, HF.out⟩
end
end Go.Proofs.Ythgajdaiklfjhaa
