/-
  The walk of the document's Next.
-/
import Derived.Test.YthgajdaiklfjhaaDocT
import Derived.Deep.DeepCutAuto
import Derived.Deep.CutBlock
namespace Go.Proofs.Ythgajdaiklfjhaa
open Go.RowKit
section
variable {w w' : World} {base R X c : Nat} {a : Option Addr} {L : Rg}
/-- A frame's three cells. -/
def enL (f : Int) (p q : Bool) : List Value := [.int .i64 f, .bool p, .bool q]
def boxE (f : Int) (p q : Bool) : Obj := .cells #[.int .i64 f, .bool p, .bool q] 61
theorem enL_one (f : Int) (p q : Bool) : ∀ u ∈ enL f p q, u.oneCell' = true := by simp [enL, Value.oneCell']
theorem rd_of_block {W W' : World} {b : Nat} {f : Int} {p q : Bool} (h : W.heap[b]? = some (.cells #[.int .i64 f, .bool p, .bool q] 61 (0, 0))) (hk : W'.heap[b]? = W.heap[b]?) : Rd W' 3 (some ⟨b, 0, none⟩) 1 (enL f p q) := by
  refine ⟨rfl, fun _ => ⟨b, 0, rfl, (Array.getElem?_eq_some_iff.1 (hk.trans h)).1, fun j u hu => ?_⟩⟩
  rw [Nat.zero_add, World.cell?]
  simp only [hk, h]
  simpa [enL] using hu
theorem hat_of {H : Nat} {v1 : Value} {E n : Nat} (h : v1.ownBlock = (Value.slice (some ⟨E, 0, none⟩) 0 0).ownBlock ∨ v1.ownBlock = some n) (h1 : H ≤ E) (h2 : H ≤ n) : ∀ k, v1.ownBlock = some k → H ≤ k := by
  intro k hk
  rcases h with e | e <;> (rw [hk] at e; cases e; assumption)
theorem grown_own {W Wx w1 : World} {E : Nat} (hb : Below W.heap.size W Wx) (hE : W.heap.size ≤ E) (hg : Wx.grownBy w1 (some E)) : Below W.heap.size W w1 := hb.grown hg hb.size (fun k hk => by cases hk; exact hE)
theorem grown_hat {W Wx w2 : World} {v1 : Value} (hb : Below W.heap.size W Wx) (hE : ∀ k, v1.ownBlock = some k → W.heap.size ≤ k) (hg : Wx.grownBy w2 v1.ownBlock) : Below W.heap.size W w2 := hb.grown hg hb.size hE
theorem heap_last (w : World) (o : Obj) : (w.alloc o).heap[w.heap.size]? = some o := (MapKept.heap_alloc w o).1
theorem heap_old (w : World) (o : Obj) {b : Nat} (h : b < w.heap.size) : (w.alloc o).heap[b]? = w.heap[b]? := (below_new w o).block b h
set_option maxHeartbeats 4000000 in
set_option maxRecDepth 100000 in
theorem doc_next (s : DK w base R a c X L) (hb : base ≤ w.heap.size) (hn : L.length ≤ 1000000) {t : Option Int} {L' : Rg} (h : nextC L = (t, L')) :
    Calls Try.prog 23 #[.pointer (some ⟨R, 0, none⟩)] w fun r w' => r = .returned (toldV t) ∧ ∃ a' c' X', DK w' base R a' c' X' L' ∧ Only w w' R := by
  obtain ⟨i0, hi, hz0, hz1, hz2⟩ := info_parts info61
  have HT := Lib.hid (show (nextC L).1 = t by rw [h])
  have HT2 := Lib.hid (show (nextC L).2 = L' by rw [h])
  have HB0 := Lib.hid hb
  clear h
  go_enter Try.func23, Try.ntmps23
  go_wp2_with fail
  go_loopg [] (wt L) (fun k wr => ∃ M a' c' X', nextC M = nextC L ∧ wt M = k ∧ M.length = L.length ∧ DK wr base R a' c' X' M ∧ Only w wr R)
  case atStart => exact ⟨L, a, c, X, rfl, rfl, rfl, s, only_refl _ _⟩
  case round =>
    clear s
    obtain ⟨M, a', c', X', hL, hk, hlen, s, ho⟩ := hrel
    have HL := Lib.hid hL
    have HK := Lib.hid hk
    have HO := Lib.hid ho
    clear hL hk ho
    have hsz := HO.out.size
    have r0 := s.r0
    have hlc := s.lec
    cases M with
    | nil =>
      have r0' : wr.cell? ⟨R, 0, none⟩ = some (.slice a' 0 c') := r0
      clear r0 hlen
      go_wp2_with fail
      go_ret2
      rw [← HT.out, ← HT2.out, ← HL.out]
      exact ⟨rfl, a', c', X', s, HO.out⟩
    | cons x r =>
      obtain ⟨f, p, q⟩ := x
      have hpos := s.pos (by simp)
      subst hpos
      obtain ⟨m, hm⟩ : ∃ m, r.length = m := ⟨_, rfl⟩
      have r0' : wr.cell? ⟨R, 0, none⟩ = some (.slice (some ⟨X', 0, none⟩) (m + 1) c') := by rw [r0, List.length_cons, hm]
      have hlc' : m + 1 ≤ c' ∧ c' ≤ 9223372036854775807 := by rw [List.length_cons, hm] at hlc; exact hlc
      have hm6 : m ≤ 1000000 := by rw [List.length_cons, hm] at hlen; omega
      have c0 := s.fst (k := 0) rfl
      have c1 := s.snd (k := 0) rfl
      have c2 := s.trd (k := 0) rfl
      simp only [Nat.zero_mul, Nat.zero_add] at c0 c1 c2
      have hRl := s.row.lt
      have fzR := s.row.frozen 0
      have hrd := s.own.rd
      rw [List.length_cons, hm] at hrd
      obtain ⟨A2, hsl, hrd2⟩ := run_slice_from Try.underlying43 elem43 hi X' 0 (m + 1) c' 1 (by omega) (by omega)
      have hsl' : ∀ W, (Instr.slice 43 (.slice (some ⟨X', 0, none⟩) (m + 1) c') (some (.int .i64 1)) none none).run Try.prog W = .ok (.slice A2 m (c' - 1)) W := hsl
      rw [hz1] at hrd2
      have H2 := Lib.hid (fun (W : World) (k : Below wr.heap.size wr W) => (show Rd W 3 A2 m (cellsR r) by
        have := hrd2 W _ (hrd.below k)
        rw [cellsR_cons] at this
        simpa using this))
      have HS := Lib.hid s
      have HM := Lib.hid hm
      have HLN := Lib.hid hlen
      have HOR := Lib.hid (cellsR_one r)
      clear hrd2 hrd hsl r0 hlc hm hlen s
      obtain ⟨W, hW⟩ : ∃ W, W = wr.alloc (.cells #[.int .i64 f, .bool q, .bool false] 61) := ⟨_, rfl⟩
      have bW : Below wr.heap.size wr W := by rw [hW]; exact below_new _ _
      obtain ⟨P, hP⟩ : ∃ P, P = wr.heap.size := ⟨_, rfl⟩
      have hWs : W.heap.size = P + 1 := by rw [hW, hP]; simp
      have p0 : W.cell? ⟨P, 0, none⟩ = some (.int .i64 f) := by rw [hW, hP, World.cell?_alloc_new]; rfl
      have p1 : W.cell? ⟨P, 1, none⟩ = some (.bool q) := by rw [hW, hP, World.cell?_alloc_new]; rfl
      have p2 : W.cell? ⟨P, 2, none⟩ = some (.bool false) := by rw [hW, hP, World.cell?_alloc_new]; rfl
      have rW : W.cell? ⟨R, 0, none⟩ = some (.slice (some ⟨X', 0, none⟩) (m + 1) c') := (bW.cell (p := ⟨R, 0, none⟩) hRl).trans r0'
      have fW : W.frozen? ⟨R, 0, none⟩ = false := (bW.frozen (p := ⟨R, 0, none⟩) hRl).trans fzR
      have hPR : R < P := by omega
      have hRW : R < W.heap.size := by omega
      have hPW : P < W.heap.size := by omega
      have HP := Lib.hid hP
      have HW := Lib.hid hW
      have bwr : ∀ Wx, Below W.heap.size W Wx → Below wr.heap.size wr Wx := fun Wx k => bW.trans (k.mono (by have := bW.size; omega))
      have keepS : ∀ Wx, Below W.heap.size W Wx → Wx.cell? ⟨R, 0, none⟩ = some (.slice (some ⟨X', 0, none⟩) (m + 1) c') ∧ Wx.cell? ⟨P, 0, none⟩ = some (.int .i64 f) ∧ Wx.cell? ⟨P, 1, none⟩ = some (.bool q) ∧ Wx.cell? ⟨P, 2, none⟩ = some (.bool false) :=
        fun Wx k => ⟨(k.cell (p := ⟨R, 0, none⟩) hRW).trans rW, (k.cell (p := ⟨P, 0, none⟩) hPW).trans p0, (k.cell (p := ⟨P, 1, none⟩) hPW).trans p1, (k.cell (p := ⟨P, 2, none⟩) hPW).trans p2⟩
      have keepF : ∀ Wx, Below W.heap.size W Wx → Wx.frozen? ⟨R, 0, none⟩ = false := fun Wx k => (k.frozen (p := ⟨R, 0, none⟩) hRW).trans fW
      have bD : Below W.heap.size W W.drew := (Below.refl _ _).drew
      have bA : Below W.heap.size W (W.alloc (.cells #[] 61)).drew := (below_new _ _).drew
      have bB : Below W.heap.size W ((W.alloc (.cells #[] 61)).alloc (.cells #[.int .i64 f, .bool q, .bool false] 61)).drew := (below_alloc (below_new _ _) _).drew
      have bX : Below W.heap.size W (W.alloc (.cells #[.int .i64 f, .bool q, .bool false] 61)).drew := (below_new _ _).drew
      have bC : Below W.heap.size W ((W.alloc (.cells #[.int .i64 f, .bool q, .bool false] 61)).alloc (.cells #[] 61)).drew := (below_alloc (below_new _ _) _).drew
      have hbW : base ≤ W.heap.size := by have := HB0.out; have := bW.size; omega
      have hEa : (W.alloc (.cells #[] 61)).drew.ownsRow base 61 3 (.slice (some ⟨W.heap.size, 0, none⟩) 0 0) 0 [] := own_empty W 61 3 hbW
      have hEb : ((W.alloc (.cells #[] 61)).alloc (.cells #[.int .i64 f, .bool q, .bool false] 61)).drew.ownsRow base 61 3 (.slice (some ⟨W.heap.size, 0, none⟩) 0 0) 0 [] := (own_empty W 61 3 hbW).alloc _
      have hEc : ((W.alloc (.cells #[.int .i64 f, .bool q, .bool false] 61)).alloc (.cells #[] 61)).drew.ownsRow base 61 3 (.slice (some ⟨W.heap.size + 1, 0, none⟩) 0 0) 0 [] := by
        have := own_empty (W.alloc (.cells #[.int .i64 f, .bool q, .bool false] 61)) 61 3 (base := base) (by simp; omega)
        rw [World.size_alloc] at this
        exact this
      have hGa : ∀ w1, (W.alloc (.cells #[] 61)).drew.grownBy w1 (some W.heap.size) → Below W.heap.size W w1 := fun w1 hg => grown_own bA (Nat.le_refl _) hg
      have hGb : ∀ w1, ((W.alloc (.cells #[] 61)).alloc (.cells #[.int .i64 f, .bool q, .bool false] 61)).drew.grownBy w1 (some W.heap.size) → Below W.heap.size W w1 ∧ Rd w1 3 (some ⟨W.heap.size + 1, 0, none⟩) 1 (enL f q false) := fun w1 hg => by
        refine ⟨grown_own bB (Nat.le_refl _) hg, rd_of_block (W := ((W.alloc (.cells #[] 61)).alloc (.cells #[.int .i64 f, .bool q, .bool false] 61))) (p := q) (q := false) (f := f) ?_ ?_⟩
        · have := heap_last (W.alloc (.cells #[] 61)) (.cells #[.int .i64 f, .bool q, .bool false] 61)
          rwa [World.size_alloc] at this
        · exact hg.block (W.heap.size + 1) (by show W.heap.size + 1 < ((W.alloc (.cells #[] 61)).alloc (.cells #[.int .i64 f, .bool q, .bool false] 61)).heap.size; simp) (by simp)
      have hGc : ∀ w1, ((W.alloc (.cells #[.int .i64 f, .bool q, .bool false] 61)).alloc (.cells #[] 61)).drew.grownBy w1 (some (W.heap.size + 1)) → Below W.heap.size W w1 ∧ Rd w1 3 (some ⟨W.heap.size, 0, none⟩) 1 (enL f q false) := fun w1 hg => by
        refine ⟨grown_own bC (by omega) hg, rd_of_block (W := ((W.alloc (.cells #[.int .i64 f, .bool q, .bool false] 61)).alloc (.cells #[] 61))) (p := q) (q := false) (f := f) ?_ ?_⟩
        · rw [heap_old _ _ (by simp), heap_last]
        · exact hg.block W.heap.size (by show W.heap.size < ((W.alloc (.cells #[.int .i64 f, .bool q, .bool false] 61)).alloc (.cells #[] 61)).heap.size; simp; omega) (by simp)
      have HA1 := Lib.hid hEa
      have HB1 := Lib.hid hEb
      have HC1 := Lib.hid hEc
      have HA2 := Lib.hid hGa
      have HB2 := Lib.hid hGb
      have HC2 := Lib.hid hGc
      have HA3 := Lib.hid (H2.out _ (bwr _ bA))
      have HB3 := Lib.hid (H2.out _ (bwr _ bB))
      have HC3 := Lib.hid (H2.out _ (bwr _ bC))
      have HA4 := Lib.hid (Nat.le_trans hbW bA.size)
      have HB4 := Lib.hid (Nat.le_trans hbW bB.size)
      have HC4 := Lib.hid (Nat.le_trans hbW bC.size)
      have HKS := Lib.hid keepS
      have HKF := Lib.hid keepF
      have HBW := Lib.hid bwr
      have KD := Lib.hid bD
      have KA := Lib.hid bA
      have KB := Lib.hid bB
      have KX := Lib.hid bX
      have KC := Lib.hid bC
      have hBL := Lib.hid hbW
      clear hWs hEa hEb hEc hGa hGb hGc keepS keepF bwr bD bA bB bX bC hbW bW hP hW
      go_upto_block 2 with fail
      go_cut [5] from 18 to 26 (fun tv wx => tv = .bool (!p && !q) ∧ W = wx)
      case first =>
        clear HA1 HB1 HC1 HA2 HB2 HC2 HA3 HB3 HC3 HA4 HB4 HC4 HKS HKF HBW KD KA KB KX KC hBL
        cases p <;> cases q
        all_goals
          go_wp2_with fail
          go_meet
          exact ⟨rfl, HW.out⟩
      case rest =>
        obtain ⟨rfl, rfl⟩ := hcut
        obtain ⟨tb, htb⟩ : ∃ tb, (!p && !q) = tb := ⟨_, rfl⟩
        rw [htb]
        have HTB := Lib.hid htb
        clear htb
        rw [← HP.out]
        go_upto_region 10 with fail
        go_cut [] from 27 to 37 (fun wx => ∃ a' c' X', DK wx base R a' c' X' (rot ((f, p, q) :: r)) ∧ Only wr wx R ∧ wx.cell? ⟨P, 0, none⟩ = some (.int .i64 f))
        case first =>
          go_region_law (((first
              | ((refine step_append_rd _ (by rfl) (.tmp 28) (.tmp 33) 43 (by rfl) base 61 i0 _ 3 16 Try.underlying43 hi hz0 hz1 hz2 rfl (by omega) (.slice (some ⟨W.heap.size, 0, none⟩) 0 0) 0 [] (by rfl) HA1.out A2 m (c' - 1) (cellsR r) (by rfl) HA3.out HOR.out (by unfold maxLen; omega) (by omega) HA4.out ?_; intro v1 w1 hown1 hgrow1 hat1 hnil1; have hb1 := HA2.out _ hgrow1; have ht1 := hat_of hat1 (Nat.le_refl _) (below_alloc (Below.refl W.heap.size W) (.cells #[] 61)).size; obtain ⟨_, cp0, cp1, cp2⟩ := HKS.out _ hb1; have hsz1 := hb1.size))
              | ((refine step_append_rd _ (by rfl) (.tmp 28) (.tmp 33) 43 (by rfl) base 61 i0 _ 3 16 Try.underlying43 hi hz0 hz1 hz2 rfl (by omega) (.slice (some ⟨W.heap.size, 0, none⟩) 0 0) 0 [] (by rfl) HB1.out A2 m (c' - 1) (cellsR r) (by rfl) HB3.out HOR.out (by unfold maxLen; omega) (by omega) HB4.out ?_; intro v1 w1 hown1 hgrow1 hat1 hnil1; have hb1 := (HB2.out _ hgrow1).1; have hrx := (HB2.out _ hgrow1).2; have ht1 := hat_of hat1 (Nat.le_refl _) (below_alloc (below_alloc (Below.refl W.heap.size W) (.cells #[] 61)) (.cells #[.int .i64 f, .bool q, .bool false] 61)).size; obtain ⟨_, cp0, cp1, cp2⟩ := HKS.out _ hb1; have hsz1 := hb1.size))
              | ((refine step_append_rd _ (by rfl) (.tmp 28) (.tmp 33) 43 (by rfl) base 61 i0 _ 3 16 Try.underlying43 hi hz0 hz1 hz2 rfl (by omega) (.slice (some ⟨W.heap.size + 1, 0, none⟩) 0 0) 0 [] (by rfl) HC1.out A2 m (c' - 1) (cellsR r) (by rfl) HC3.out HOR.out (by unfold maxLen; omega) (by omega) HC4.out ?_; intro v1 w1 hown1 hgrow1 hat1 hnil1; have hb1 := (HC2.out _ hgrow1).1; have hrx := (HC2.out _ hgrow1).2; have ht1 := hat_of hat1 (Nat.le_succ _) (below_alloc (below_alloc (Below.refl W.heap.size W) (.cells #[.int .i64 f, .bool q, .bool false] 61)) (.cells #[] 61)).size; obtain ⟨_, cp0, cp1, cp2⟩ := HKS.out _ hb1; have hsz1 := hb1.size))
              | ((refine step_append_rd _ (by rfl) (.tmp 34) (.tmp 36) 43 (by rfl) base 61 i0 _ 3 16 Try.underlying43 hi hz0 hz1 hz2 rfl (by omega) v1 (0 + m) ([] ++ cellsR r) (by rfl) (hown1.alloc _) (some ⟨w1.heap.size, 0, none⟩) 1 1 (enL f q false) (by rfl) (rd_new w1 #[.int .i64 f, .bool q, .bool false] 61 3 1 rfl) (enL_one _ _ _) (by unfold maxLen; omega) (by omega) (Nat.le_trans hBL.out (below_alloc hb1 _).size) ?_; intro v2 w2 hown2 hgrow2 hat2 hnil2; have hb2 := grown_hat (below_alloc hb1 _) ht1 hgrow2; obtain ⟨cr2, _, _, _⟩ := HKS.out _ hb2; have hf2 := HKF.out _ hb2; have hown3 := hown2; obtain ⟨av, cv, gv, rfl, _⟩ := own_at hown2))
              | ((refine step_append_rd _ (by rfl) (.tmp 34) (.tmp 36) 43 (by rfl) base 61 i0 _ 3 16 Try.underlying43 hi hz0 hz1 hz2 rfl (by omega) v1 (0 + m) ([] ++ cellsR r) (by rfl) hown1 (some ⟨W.heap.size + 1, 0, none⟩) 1 1 (enL f q false) (by rfl) hrx (enL_one _ _ _) (by unfold maxLen; omega) (by omega) (Nat.le_trans hBL.out hb1.size) ?_; intro v2 w2 hown2 hgrow2 hat2 hnil2; have hb2 := grown_hat hb1 ht1 hgrow2; obtain ⟨cr2, _, _, _⟩ := HKS.out _ hb2; have hf2 := HKF.out _ hb2; have hown3 := hown2; obtain ⟨av, cv, gv, rfl, _⟩ := own_at hown2))
              | ((refine step_append_rd _ (by rfl) (.tmp 34) (.tmp 36) 43 (by rfl) base 61 i0 _ 3 16 Try.underlying43 hi hz0 hz1 hz2 rfl (by omega) v1 (0 + m) ([] ++ cellsR r) (by rfl) hown1 (some ⟨W.heap.size, 0, none⟩) 1 1 (enL f q false) (by rfl) hrx (enL_one _ _ _) (by unfold maxLen; omega) (by omega) (Nat.le_trans hBL.out hb1.size) ?_; intro v2 w2 hown2 hgrow2 hat2 hnil2; have hb2 := grown_hat hb1 ht1 hgrow2; obtain ⟨cr2, _, _, _⟩ := HKS.out _ hb2; have hf2 := HKF.out _ hb2; have hown3 := hown2; obtain ⟨av, cv, gv, rfl, _⟩ := own_at hown2)))))
          all_goals
            have bwr2 := HBW.out _ hb2
            obtain ⟨a3, c3, X3, st, on⟩ := HS.out.store bwr2 (L' := rot ((f, p, q) :: r)) (v := .slice av (0 + m + 1) cv) (n := 0 + m + 1) (by rw [len_rot, List.length_cons, HM.out]; omega) (by
              have e : cellsR (rot ((f, p, q) :: r)) = [] ++ cellsR r ++ enL f q false := cellsR_snoc _ _ _ _
              rw [e]; exact hown3) (okC_rot HS.out.ok) (by
              intro e
              have h1 := hnil2.1 e
              cases h1.2)
            go_wp2_with fail
            go_meet
            exact ⟨a3, c3, X3, by simpa using st, by simpa using on, by
              have := (hb2.cell (p := ⟨P, 0, none⟩) hPW).trans p0
              rw [World.cell?_setCell_other]
              · exact this
              · intro h
                have := congrArg Addr.block h
                simp at this
                omega⟩
        case rest =>
          obtain ⟨a3, c3, X3, st, on, pc⟩ := hcut
          cases tb with
          | true =>
            have hpq : (p, q) = (false, false) := by have := HTB.out; revert this; cases p <;> cases q <;> simp
            go_wp2_with fail
            go_ret2
            rw [← HT.out, ← HT2.out, ← HL.out, nextC_told r hpq]
            exact ⟨rfl, a3, c3, X3, st, only_trans HO.out on⟩
          | false =>
            have hpq : ¬ (p, q) = (false, false) := by have := HTB.out; revert this; cases p <;> cases q <;> simp
            have HPQ := Lib.hid hpq
            clear hpq
            go_wp2_with fail
            go_roundg (wt (rot ((f, p, q) :: r)))
            case measure =>
              rw [← HK.out]
              exact wt_rot _ _ HPQ.out
            case rel =>
              exact ⟨rot ((f, p, q) :: r), a3, c3, X3, by rw [← nextC_turn r HPQ.out]; exact HL.out, rfl, by rw [len_rot]; exact HLN.out, st, only_trans HO.out on⟩
end
end Go.Proofs.Ythgajdaiklfjhaa
