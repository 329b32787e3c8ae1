/-
  A step of the document's world (printed by gen_refs.py).
-/
import Derived.Test.YtjobdncikpnojaaRefW
import Derived.StillTailTactics
import Derived.BigGuardPart
import Derived.BigRegion
namespace Go.Proofs.Ytjobdncikpnojaa
open Go.RowKit
theorem above_succ (j : Nat) (h : Lk.Hold) (who : Int) (l : Nat) (hl : l ≤ j) : Lk.above (j + 1) h who l = (Lk.above j h who l || (h j == who)) := by
  unfold Lk.above
  rw [List.range_succ, List.any_append]
  simp [hl]
theorem above_none (h : Lk.Hold) (who : Int) (l : Nat) : Lk.above l h who l = false := (Lk.above_false _ _ _ _).2 fun i h1 h2 => by omega
theorem upI_self {f : Nat → Int} {k : Nat} {v : Int} (h : f k = v) : upI f k v = f := by
  funext i
  unfold upI
  split
  · rename_i e; rw [e, h]
  · rfl
section
variable {w : World} {Z R : Nat} {g c : Nat → Nat} {n : Nat} {pr : Nat → Value} {pc : Nat → Int} {on : Nat → Bool} {st : Nat → Int} {h : Lk.Hold} {aT : Option Addr} {cT gT : Nat} {told : List (Int × Int)}
/-- What a step leaves. -/
def StepP (w : World) (Z R : Nat) (g c : Nat → Nat) (n : Nat) (pr : Nat → Value) (pc : Nat → Int) (on : Nat → Bool) (st : Nat → Int) (gT : Nat) (told : List (Int × Int)) (k i : Nat) (code : Nat) (over : Bool) (h' : Lk.Hold) (more : List (Int × Int)) (e : Ending) (w' : World) : Prop :=
  e = .returned (.bool over) ∧ ∃ aT' cT' gT', RW w' Z R g c n pr (upI pc k (if code = 1 then (i : Int) else ((i + 1 : Nat) : Int))) (if over then upB on k false else on) (upI st k (st k + 1)) h' aT' cT' gT' (told ++ more) ∧ (gT' = gT ∨ w.heap.size ≤ gT') ∧ KeepL w w' [R, g 1, g 2, g 3, gT]
set_option maxRecDepth 100000 in
set_option maxHeartbeats 16000000 in
theorem ref_step (s : RW w Z R g c n pr pc on st h aT cT gT told) (k : Nat) (hk : k < n) {a : Option Addr} {cc : Nat} {L : List (Int × Int)} {i : Nat} {x : Int × Int} (hpr : pr k = .slice a L.length cc) (hac : ActsR w a L) (hlc : L.length ≤ 30) (hpc : pc k = (i : Int)) (hx : L[i]? = some x) (ht : 0 ≤ x.2 ∧ x.2 ≤ 7) (hst : 0 ≤ st k ∧ st k < 1000000) (hn : told.length ≤ 1000000) (hoh : Lk.OkH h) :
    Calls Try.prog 19 #[ptr R, .int .i64 (k : Int)] w (StepP w Z R g c n pr pc on st gT told k i (stepF (k : Int) h x).1 (restF (stepF (k : Int) h x).1 x (L.drop (i + 1))).isEmpty (stepF (k : Int) h x).2.1 (stepF (k : Int) h x).2.2) := by
  obtain ⟨code, h', more, hE⟩ : ∃ code h' more, stepF (k : Int) h x = (code, h', more) := ⟨_, _, _, rfl⟩
  rw [hE]
  simp only
  obtain ⟨over, hO⟩ : ∃ over, over = (restF code x (L.drop (i + 1))).isEmpty := ⟨_, rfl⟩
  rw [← hO]
  obtain ⟨k0, l0⟩ := x
  simp only at ht
  obtain ⟨l, rfl⟩ : ∃ l : Nat, l0 = (l : Int) := ⟨l0.toNat, by omega⟩
  have hl7 : l ≤ 7 := by omega
  have hiL : i < L.length := (List.getElem?_eq_some_iff.1 hx).1
  obtain ⟨b, o, hA, hb, hc⟩ := hac.at_ (by omega)
  obtain ⟨q0, q1⟩ := hc i _ hx
  simp only at q0 q1
  subst hA
  obtain ⟨m, hm⟩ : ∃ m, m = L.length := ⟨_, rfl⟩
  have hn16 := s.n16
  have cR0 : w.cell? ⟨R, 0, none⟩ = some (.slice (some ⟨g 0, 0, none⟩) n (c 0)) := s.row.cell (i := 0) (by decide)
  have cR1 : w.cell? ⟨R, 1, none⟩ = some (.slice (some ⟨g 1, 0, none⟩) n (c 1)) := s.row.cell (i := 1) (by decide)
  have cR12 : w.cell? ⟨R, 12, none⟩ = some (.slice (some ⟨g 3, 0, none⟩) n (c 3)) := s.row.cell (i := 12) (by decide)
  have cP := s.aP.cell hk
  have cA := s.aA.cell hk
  have cS := s.aS.cell hk
  have fS := s.aS.frozen k
  rw [hpr, ← hm] at cP
  have HPR := Lib.hid (show pr k = .slice (some ⟨b, o, none⟩) m cc by rw [hpr, ← hm])
  simp only [hpc] at cA
  rw [← hm] at hiL hlc
  have HM := Lib.hid hm
  have HX := Lib.hid hx
  have HPC := Lib.hid hpc
  have HE := Lib.hid hE
  have HO := Lib.hid hO
  clear hpr hpc hc hx hm hac hE hO
  have hki : (k : Int) < (n : Int) := by omega
  have hi0 : (0 : Int) ≤ (i : Int) := by omega
  have hi1 : (i : Int) < (m : Int) := by omega
  have bN := below_new w (.cells #[.int .i64 0, .int .i64 0] 47)
  have hRlt := s.row.lt
  have dR0 : (w.alloc (.cells #[.int .i64 0, .int .i64 0] 47)).drew.cell? ⟨R, 0, none⟩ = _ := (bN.cell (p := ⟨R, 0, none⟩) hRlt).trans cR0
  have dR1 : (w.alloc (.cells #[.int .i64 0, .int .i64 0] 47)).drew.cell? ⟨R, 1, none⟩ = _ := (bN.cell (p := ⟨R, 1, none⟩) hRlt).trans cR1
  have dP : (w.alloc (.cells #[.int .i64 0, .int .i64 0] 47)).drew.cell? ⟨g 0, k, none⟩ = _ := (bN.cell (p := ⟨g 0, k, none⟩) s.aP.lt).trans cP
  have dA : (w.alloc (.cells #[.int .i64 0, .int .i64 0] 47)).drew.cell? ⟨g 1, k, none⟩ = _ := (bN.cell (p := ⟨g 1, k, none⟩) s.aA.lt).trans cA
  have dq0 : (w.alloc (.cells #[.int .i64 0, .int .i64 0] 47)).drew.cell? ⟨b, o + i * 2, none⟩ = _ := (bN.cell (p := ⟨b, o + i * 2, none⟩) hb).trans q0
  have dq1 : (w.alloc (.cells #[.int .i64 0, .int .i64 0] 47)).drew.cell? ⟨b, o + i * 2 + 1, none⟩ = _ := (bN.cell (p := ⟨b, o + i * 2 + 1, none⟩) hb).trans q1
  go_enter Try.func19, Try.ntmps19
  go_wp2_with fail
  go_region
  clear bN dR0 dR1 dP dA dq0 dq1
  have bX : Below w.heap.size w (w.alloc (.cells #[.int .i64 k0, .int .i64 (l : Int)] 47)).drew := (below_new _ _).drew
  have xr : (w.alloc (.cells #[.int .i64 k0, .int .i64 (l : Int)] 47)).drew.heap[w.heap.size]? = some (.cells #[.int .i64 k0, .int .i64 (l : Int)] 47 (0, 0)) := World.alloc_heap_new w _
  generalize (w.alloc (.cells #[.int .i64 k0, .int .i64 (l : Int)] 47)).drew = w1 at *
  have s1 := s.below bX
  have HP := Lib.hid (Nat.le_refl w.heap.size)
  have kX := keepL_below bX [R, g 1, g 2, g 3, gT]
  generalize hP : w.heap.size = P at xr HP ⊢
  have HPP := Lib.hid (Nat.le_of_eq hP)
  clear hP bX
  have dR12 : w1.cell? ⟨R, 12, none⟩ = some (.slice (some ⟨g 3, 0, none⟩) n (c 3)) := s1.row.cell (i := 12) (by decide)
  have dS := s1.aS.cell hk
  have dfS := s1.aS.frozen k
  have s2 := s1.setS k (st k + 1)
  have k2 := kX.trans (keepL_set w1 (S := [R, g 1, g 2, g 3, gT]) (g 3) k (.int .i64 (st k + 1)) (by simp))
  have xr2 : (w1.setCell ⟨g 3, k, none⟩ (.int .i64 (st k + 1))).heap[P]? = some (.cells #[.int .i64 k0, .int .i64 (l : Int)] 47 (0, 0)) := by
    refine (Below.heap_setCell w1 ⟨g 3, k, none⟩ _ P ?_).trans xr
    exact ne_typ ⟨_, xr⟩ s1.aS.typ (by decide)
  clear kX xr s1 s cR0 cR1 cR12 cP cA cS fS q0 q1 hb hRlt
  go_upto_region 3 with fail
  generalize w1.setCell ⟨g 3, k, none⟩ (.int .i64 (st k + 1)) = w2 at *
  clear dR12 dS dfS
  have y0 : w2.cell? ⟨P, 0, none⟩ = some (.int .i64 k0) := by unfold World.cell?; rw [xr2]; rfl
  have y1 : w2.cell? ⟨P, 1, none⟩ = some (.int .i64 (l : Int)) := by unfold World.cell?; rw [xr2]; rfl
  have cHH : ∀ j, j < 8 → w2.cell? ⟨R, 3 + j, none⟩ = some (.int .i64 (h j)) := fun j hj => by
    rw [s2.row.cell (i := 3 + j) (by omega)]
    unfold refF
    rw [if_neg (by omega), if_neg (by omega), if_neg (by omega), if_neg (by omega), if_neg (by omega), show 3 + j - 3 = j by omega]
  have cH := cHH l (by omega)
  have CHH := Lib.hid cHH
  have fH := s2.row.frozen (3 + l)
  have hohl := hoh l
  have hl0 : (0 : Int) ≤ (l : Int) := by omega
  have hl8 : (l : Int) < 8 := by omega
  have hlN : l < 8 := by omega
  have XR := Lib.hid xr2
  have hbad : Lk.bad 8 (k : Int) (l : Int) = false := by unfold Lk.bad; simp; omega
  have HBAD := Lib.hid hbad
  clear xr2 hbad cHH hoh
  rcases Decidable.em (k0 = 1) with hk1 | hk1
  · have e1 : (k0 == 1) = true := by rw [hk1]; rfl
    have HK := Lib.hid hk1
    clear hk1
    have S2 := Lib.hid s2
    have K2 := Lib.hid k2
    clear s2 k2
    go_wp2_with fail
    go_loopw [6, 7] (fun v6 v7 wr => ∃ j : Nat, l ≤ j ∧ j ≤ 8 ∧ v6 = .bool (Lk.above j h (k : Int) l) ∧ v7 = .int .i64 j ∧ w2 = wr) (fun _ v7 _ => 8 - (intOf v7).toNat)
    case atStart => exact ⟨l, Nat.le_refl _, by omega, by rw [above_none], rfl, rfl⟩
    case round =>
      obtain ⟨j, hlj, hj8, rfl, rfl, rfl⟩ := hrel
      by_cases hjl : j < 8
      · have cj := CHH.out j hjl
        have hs := above_succ j h (k : Int) l hlj
        have HS := Lib.hid hs
        clear hs
        have hj0 : (j : Int) < 8 := by omega
        by_cases hq : h j = (k : Int)
        · have q1 : (h j == (k : Int)) = true := by rw [hq]; simp
          have HQ := Lib.hid hq
          clear hq
          go_wp2_with fail
          go_roundw
          case rel => exact ⟨j + 1, by omega, by omega, by rw [HS.out, HQ.out]; simp, by go_num, by trivial⟩
          case measure => simp [intOf]; omega
        · have q1 : (h j == (k : Int)) = false := by simp [hq]
          clear hq
          have HQ := Lib.hid q1
          go_wp2_with fail
          go_roundw
          case rel => exact ⟨j + 1, by omega, by omega, by rw [HS.out, HQ.out]; simp, by go_num, by trivial⟩
          case measure => simp [intOf]; omega
      · obtain rfl : j = 8 := by omega
        cases hab : Lk.above 8 h (k : Int) l with
        | true =>
          obtain ⟨rfl, rfl, rfl⟩ : code = 0 ∧ h = h' ∧ more = [] := by
            have e := HE.out
            rw [HK.out] at e
            have ht : Lk.tryF 8 h (k : Int) (l : Int) = (false, 50, h) := by
              unfold Lk.tryF
              rw [HBAD.out]
              simp [hab]
            unfold stepF at e
            simp [ht] at e
            exact ⟨e.1.symm, e.2.1, e.2.2⟩
          go_upto_region 11 with fail
          go_quiet (fail)
          go_upto_region 21 with fail
          have s3 := S2.out.drewN nq
          have k3 := K2.out.trans (keepL_drewN w2 nq _)
          have y1 : (w2.drewN nq).cell? ⟨P, 1, none⟩ = some (.int .i64 (l : Int)) := y1
          have cH : (w2.drewN nq).cell? ⟨R, 3 + l, none⟩ = some (.int .i64 (h l)) := cH
          have fH : (w2.drewN nq).frozen? ⟨R, 3 + l, none⟩ = false := fH
          generalize w2.drewN nq = w3 at *
          clear S2 K2
          have sv := s3
          have kv := k3
          clear s3 k3
          obtain ⟨wv, rfl⟩ : ∃ wv, wv = w3 := ⟨_, rfl⟩
          clear cH fH y1
          have cR1 : wv.cell? ⟨R, 1, none⟩ = some (.slice (some ⟨g 1, 0, none⟩) n (c 1)) := sv.row.cell (i := 1) (by decide)
          have cA := sv.aA.cell hk
          have fA := sv.aA.frozen k
          simp only [HPC.out] at cA
          have s5 := sv.setA k ((i + 1 : Nat) : Int)
          have k5 := kv.trans (keepL_set wv (S := [R, g 1, g 2, g 3, gT]) (g 1) k (.int .i64 ((i + 1 : Nat) : Int)) (by simp))
          have hpr5 := HPR.out
          clear sv kv
          rw [← List.append_nil told] at s5
          go_upto_region 22 with fail
          rw [show (i : Int) + 1 = ((i + 1 : Nat) : Int) by omega]
          generalize wv.setCell ⟨g 1, k, none⟩ (.int .i64 ((i + 1 : Nat) : Int)) = w5 at *
          clear cR1 cA fA
          have cR0 : w5.cell? ⟨R, 0, none⟩ = some (.slice (some ⟨g 0, 0, none⟩) n (c 0)) := s5.row.cell (i := 0) (by decide)
          have cR1 : w5.cell? ⟨R, 1, none⟩ = some (.slice (some ⟨g 1, 0, none⟩) n (c 1)) := s5.row.cell (i := 1) (by decide)
          have cR2 : w5.cell? ⟨R, 2, none⟩ = some (.slice (some ⟨g 2, 0, none⟩) n (c 2)) := s5.row.cell (i := 2) (by decide)
          have cA : w5.cell? ⟨g 1, k, none⟩ = some (.int .i64 ((i + 1 : Nat) : Int)) := by
            rw [s5.aA.cell hk]; unfold upI; rw [if_pos rfl]
          have cP := s5.aP.cell hk
          rw [hpr5] at cP
          have cO := s5.aO.cell hk
          have fO := s5.aO.frozen k
          have S5 := Lib.hid s5
          have K5 := Lib.hid k5
          clear hpr5 s5 k5
          obtain rfl : over = true := by rw [HO.out]; rfl
          clear cR0 cR1 cA cP
          go_quiet (fail)
          go_wp2_with fail
          go_ret
          exact ⟨rfl, _, _, _, (S5.out.drewN _).setO k false, .inl rfl, (K5.out.trans (keepL_drewN _ _ _)).trans (keepL_set _ (g 2) k (.bool false) (by simp))⟩
        | false =>
          by_cases hfree : h l = -1
          · obtain ⟨rfl, rfl, rfl⟩ : code = 2 ∧ h' = Lk.upd h l (k : Int) ∧ more = [] := by
              have e := HE.out
              rw [HK.out] at e
              have ht : Lk.tryF 8 h (k : Int) (l : Int) = (true, 0, Lk.upd h l (k : Int)) := by
                unfold Lk.tryF
                rw [HBAD.out]
                simp [hab, hfree]
              unfold stepF at e
              simp [ht] at e
              exact ⟨e.1.symm, e.2.1.symm, e.2.2⟩
            have q1 : decide (h l ≥ 0) = false := by rw [hfree]; decide
            have q2 : decide (0 ≤ h l) = false := by rw [hfree]; decide
            clear hfree
            go_upto_region 11 with fail
            go_quiet (fail)
            go_upto_region 14 with fail
            have s3 := S2.out.drewN nq
            have k3 := K2.out.trans (keepL_drewN w2 nq _)
            have y1 : (w2.drewN nq).cell? ⟨P, 1, none⟩ = some (.int .i64 (l : Int)) := y1
            have cH : (w2.drewN nq).cell? ⟨R, 3 + l, none⟩ = some (.int .i64 (h l)) := cH
            have fH : (w2.drewN nq).frozen? ⟨R, 3 + l, none⟩ = false := fH
            generalize w2.drewN nq = w3 at *
            clear S2 K2
            have sv := (s3.setH hlN ((k : Int))).below (Below.refl _ _).drew
            have kv := (k3.trans (keepL_set w3 (S := [R, g 1, g 2, g 3, gT]) R (3 + l) (.int .i64 ((k : Int))) (by simp))).trans (keepL_below (Below.refl _ _).drew _)
            clear s3 k3
            go_still_tail 7, (by kernel_rfl)
            change wpList _ _ _ _ _ w3.drew
            go_upto_region 21 with fail
            generalize (w3.setCell ⟨R, 3 + l, none⟩ (.int .i64 ((k : Int)))).drew = wv at *
            clear cH fH y1
            have cR1 : wv.cell? ⟨R, 1, none⟩ = some (.slice (some ⟨g 1, 0, none⟩) n (c 1)) := sv.row.cell (i := 1) (by decide)
            have cA := sv.aA.cell hk
            have fA := sv.aA.frozen k
            simp only [HPC.out] at cA
            have s5 := sv.setA k ((i + 1 : Nat) : Int)
            have k5 := kv.trans (keepL_set wv (S := [R, g 1, g 2, g 3, gT]) (g 1) k (.int .i64 ((i + 1 : Nat) : Int)) (by simp))
            have hpr5 := HPR.out
            clear sv kv
            rw [← List.append_nil told] at s5
            go_upto_region 22 with fail
            rw [show (i : Int) + 1 = ((i + 1 : Nat) : Int) by omega]
            generalize wv.setCell ⟨g 1, k, none⟩ (.int .i64 ((i + 1 : Nat) : Int)) = w5 at *
            clear cR1 cA fA
            have cR0 : w5.cell? ⟨R, 0, none⟩ = some (.slice (some ⟨g 0, 0, none⟩) n (c 0)) := s5.row.cell (i := 0) (by decide)
            have cR1 : w5.cell? ⟨R, 1, none⟩ = some (.slice (some ⟨g 1, 0, none⟩) n (c 1)) := s5.row.cell (i := 1) (by decide)
            have cR2 : w5.cell? ⟨R, 2, none⟩ = some (.slice (some ⟨g 2, 0, none⟩) n (c 2)) := s5.row.cell (i := 2) (by decide)
            have cA : w5.cell? ⟨g 1, k, none⟩ = some (.int .i64 ((i + 1 : Nat) : Int)) := by
              rw [s5.aA.cell hk]; unfold upI; rw [if_pos rfl]
            have cP := s5.aP.cell hk
            rw [hpr5] at cP
            have cO := s5.aO.cell hk
            have fO := s5.aO.frozen k
            have S5 := Lib.hid s5
            have K5 := Lib.hid k5
            clear hpr5 s5 k5
            have hrest : over = decide (m ≤ i + 1) := by
              rw [HO.out, Bool.eq_iff_iff]
              unfold restF
              rw [if_neg (by decide), if_neg (by decide)]
              simp [HM.out]
            by_cases hlast : m ≤ i + 1
            · obtain rfl : over = true := by rw [hrest]; simp; exact hlast
              have d1 : decide (((i + 1 : Nat) : Int) ≥ (m : Int)) = true := by simp; omega
              have d2 : decide ((m : Int) ≤ ((i + 1 : Nat) : Int)) = true := by simp; omega
              have d3 : decide ((m : Int) ≤ (i : Int) + 1) = true := by simp; omega
              clear hrest hlast
              go_quiet (fail)
              go_wp2_with fail
              go_ret
              exact ⟨rfl, _, _, _, (S5.out.drewN _).setO k false, .inl rfl, (K5.out.trans (keepL_drewN _ _ _)).trans (keepL_set _ (g 2) k (.bool false) (by simp))⟩
            · obtain rfl : over = false := by rw [hrest]; simp; omega
              have d1 : decide (((i + 1 : Nat) : Int) ≥ (m : Int)) = false := by simp; omega
              have d2 : decide ((m : Int) ≤ ((i + 1 : Nat) : Int)) = false := by simp; omega
              have d3 : decide ((m : Int) ≤ (i : Int) + 1) = false := by simp; omega
              clear hrest hlast
              go_quiet (fail)
              go_wp2_with fail
              go_ret
              exact ⟨rfl, _, _, _, S5.out.drewN _, .inl rfl, K5.out.trans (keepL_drewN _ _ _)⟩
          · obtain ⟨rfl, rfl, rfl⟩ : code = 1 ∧ h = h' ∧ more = [] := by
              have e := HE.out
              rw [HK.out] at e
              have ht : Lk.tryF 8 h (k : Int) (l : Int) = (false, 0, h) := by
                unfold Lk.tryF
                rw [HBAD.out]
                simp [hab, hfree]
              unfold stepF at e
              simp [ht] at e
              exact ⟨e.1.symm, e.2.1, e.2.2⟩
            obtain rfl : over = false := by rw [HO.out]; rfl
            have q1 : decide (h l ≥ 0) = true := by simp; omega
            have q2 : decide (0 ≤ h l) = true := by simp; omega
            clear hfree
            go_upto_region 11 with fail
            go_quiet (fail)
            go_wp2_with fail
            go_ret
            have s9 := S2.out.drewN nq
            rw [← List.append_nil told, ← upI_self HPC.out] at s9
            exact ⟨rfl, _, _, _, s9, .inl rfl, K2.out.trans (keepL_drewN w2 nq _)⟩
  · have e1 : (k0 == 1) = false := beq_eq_false_iff_ne.2 hk1
    rcases Decidable.em (k0 = 2) with hk2 | hk2
    · have e2 : (k0 == 2) = true := by rw [hk2]; rfl
      have HK := Lib.hid hk2
      clear hk1 hk2
      by_cases hown : h l = (k : Int)
      · obtain ⟨rfl, rfl, rfl⟩ : code = 2 ∧ h' = Lk.upd h l (-1) ∧ more = [] := by
          have e := HE.out
          rw [HK.out] at e
          have ht : Lk.freeF 8 h (k : Int) (l : Int) = (0, Lk.upd h l (-1)) := by
            unfold Lk.freeF
            rw [HBAD.out]
            simp [hown]
          unfold stepF at e
          simp [ht] at e
          exact ⟨e.1.symm, e.2.1.symm, e.2.2⟩
        have q1 : (h l != (k : Int)) = false := by rw [hown]; simp
        have S2 := Lib.hid s2
        have K2 := Lib.hid k2
        clear s2 k2 hown
        go_upto_region 16 with fail
        go_quiet (fail)
        go_upto_region 18 with fail
        have s3 := S2.out.drewN nq
        have k3 := K2.out.trans (keepL_drewN w2 nq _)
        have y1 : (w2.drewN nq).cell? ⟨P, 1, none⟩ = some (.int .i64 (l : Int)) := y1
        have cH : (w2.drewN nq).cell? ⟨R, 3 + l, none⟩ = some (.int .i64 (h l)) := cH
        have fH : (w2.drewN nq).frozen? ⟨R, 3 + l, none⟩ = false := fH
        generalize w2.drewN nq = w3 at *
        clear S2 K2
        have sv := (s3.setH hlN (-1)).below (Below.refl _ _).drew
        have kv := (k3.trans (keepL_set w3 (S := [R, g 1, g 2, g 3, gT]) R (3 + l) (.int .i64 (-1)) (by simp))).trans (keepL_below (Below.refl _ _).drew _)
        clear s3 k3
        go_still_tail 6, (by kernel_rfl)
        change wpList _ _ _ _ _ w3.drew
        go_upto_region 21 with fail
        generalize (w3.setCell ⟨R, 3 + l, none⟩ (.int .i64 (-1))).drew = wv at *
        clear cH fH y1
        have cR1 : wv.cell? ⟨R, 1, none⟩ = some (.slice (some ⟨g 1, 0, none⟩) n (c 1)) := sv.row.cell (i := 1) (by decide)
        have cA := sv.aA.cell hk
        have fA := sv.aA.frozen k
        simp only [HPC.out] at cA
        have s5 := sv.setA k ((i + 1 : Nat) : Int)
        have k5 := kv.trans (keepL_set wv (S := [R, g 1, g 2, g 3, gT]) (g 1) k (.int .i64 ((i + 1 : Nat) : Int)) (by simp))
        have hpr5 := HPR.out
        clear sv kv
        rw [← List.append_nil told] at s5
        go_upto_region 22 with fail
        rw [show (i : Int) + 1 = ((i + 1 : Nat) : Int) by omega]
        generalize wv.setCell ⟨g 1, k, none⟩ (.int .i64 ((i + 1 : Nat) : Int)) = w5 at *
        clear cR1 cA fA
        have cR0 : w5.cell? ⟨R, 0, none⟩ = some (.slice (some ⟨g 0, 0, none⟩) n (c 0)) := s5.row.cell (i := 0) (by decide)
        have cR1 : w5.cell? ⟨R, 1, none⟩ = some (.slice (some ⟨g 1, 0, none⟩) n (c 1)) := s5.row.cell (i := 1) (by decide)
        have cR2 : w5.cell? ⟨R, 2, none⟩ = some (.slice (some ⟨g 2, 0, none⟩) n (c 2)) := s5.row.cell (i := 2) (by decide)
        have cA : w5.cell? ⟨g 1, k, none⟩ = some (.int .i64 ((i + 1 : Nat) : Int)) := by
          rw [s5.aA.cell hk]; unfold upI; rw [if_pos rfl]
        have cP := s5.aP.cell hk
        rw [hpr5] at cP
        have cO := s5.aO.cell hk
        have fO := s5.aO.frozen k
        have S5 := Lib.hid s5
        have K5 := Lib.hid k5
        clear hpr5 s5 k5
        have hrest : over = decide (m ≤ i + 1) := by
          rw [HO.out, Bool.eq_iff_iff]
          unfold restF
          rw [if_neg (by decide), if_neg (by decide)]
          simp [HM.out]
        by_cases hlast : m ≤ i + 1
        · obtain rfl : over = true := by rw [hrest]; simp; exact hlast
          have d1 : decide (((i + 1 : Nat) : Int) ≥ (m : Int)) = true := by simp; omega
          have d2 : decide ((m : Int) ≤ ((i + 1 : Nat) : Int)) = true := by simp; omega
          have d3 : decide ((m : Int) ≤ (i : Int) + 1) = true := by simp; omega
          clear hrest hlast
          go_quiet (fail)
          go_wp2_with fail
          go_ret
          exact ⟨rfl, _, _, _, (S5.out.drewN _).setO k false, .inl rfl, (K5.out.trans (keepL_drewN _ _ _)).trans (keepL_set _ (g 2) k (.bool false) (by simp))⟩
        · obtain rfl : over = false := by rw [hrest]; simp; omega
          have d1 : decide (((i + 1 : Nat) : Int) ≥ (m : Int)) = false := by simp; omega
          have d2 : decide ((m : Int) ≤ ((i + 1 : Nat) : Int)) = false := by simp; omega
          have d3 : decide ((m : Int) ≤ (i : Int) + 1) = false := by simp; omega
          clear hrest hlast
          go_quiet (fail)
          go_wp2_with fail
          go_ret
          exact ⟨rfl, _, _, _, S5.out.drewN _, .inl rfl, K5.out.trans (keepL_drewN _ _ _)⟩
      · obtain ⟨rfl, rfl, rfl⟩ : code = 0 ∧ h = h' ∧ more = [] := by
          have e := HE.out
          rw [HK.out] at e
          have ht : Lk.freeF 8 h (k : Int) (l : Int) = (7, h) := by
            unfold Lk.freeF
            rw [HBAD.out]
            simp [hown]
          unfold stepF at e
          simp [ht] at e
          exact ⟨e.1.symm, e.2.1, e.2.2⟩
        have q1 : (h l != (k : Int)) = true := by simp [hown]
        have S2 := Lib.hid s2
        have K2 := Lib.hid k2
        clear s2 k2 hown
        go_upto_region 16 with fail
        go_quiet (fail)
        go_upto_region 21 with fail
        have s3 := S2.out.drewN nq
        have k3 := K2.out.trans (keepL_drewN w2 nq _)
        have y1 : (w2.drewN nq).cell? ⟨P, 1, none⟩ = some (.int .i64 (l : Int)) := y1
        have cH : (w2.drewN nq).cell? ⟨R, 3 + l, none⟩ = some (.int .i64 (h l)) := cH
        have fH : (w2.drewN nq).frozen? ⟨R, 3 + l, none⟩ = false := fH
        generalize w2.drewN nq = w3 at *
        clear S2 K2
        have sv := s3
        have kv := k3
        clear s3 k3
        obtain ⟨wv, rfl⟩ : ∃ wv, wv = w3 := ⟨_, rfl⟩
        clear cH fH y1
        have cR1 : wv.cell? ⟨R, 1, none⟩ = some (.slice (some ⟨g 1, 0, none⟩) n (c 1)) := sv.row.cell (i := 1) (by decide)
        have cA := sv.aA.cell hk
        have fA := sv.aA.frozen k
        simp only [HPC.out] at cA
        have s5 := sv.setA k ((i + 1 : Nat) : Int)
        have k5 := kv.trans (keepL_set wv (S := [R, g 1, g 2, g 3, gT]) (g 1) k (.int .i64 ((i + 1 : Nat) : Int)) (by simp))
        have hpr5 := HPR.out
        clear sv kv
        rw [← List.append_nil told] at s5
        go_upto_region 22 with fail
        rw [show (i : Int) + 1 = ((i + 1 : Nat) : Int) by omega]
        generalize wv.setCell ⟨g 1, k, none⟩ (.int .i64 ((i + 1 : Nat) : Int)) = w5 at *
        clear cR1 cA fA
        have cR0 : w5.cell? ⟨R, 0, none⟩ = some (.slice (some ⟨g 0, 0, none⟩) n (c 0)) := s5.row.cell (i := 0) (by decide)
        have cR1 : w5.cell? ⟨R, 1, none⟩ = some (.slice (some ⟨g 1, 0, none⟩) n (c 1)) := s5.row.cell (i := 1) (by decide)
        have cR2 : w5.cell? ⟨R, 2, none⟩ = some (.slice (some ⟨g 2, 0, none⟩) n (c 2)) := s5.row.cell (i := 2) (by decide)
        have cA : w5.cell? ⟨g 1, k, none⟩ = some (.int .i64 ((i + 1 : Nat) : Int)) := by
          rw [s5.aA.cell hk]; unfold upI; rw [if_pos rfl]
        have cP := s5.aP.cell hk
        rw [hpr5] at cP
        have cO := s5.aO.cell hk
        have fO := s5.aO.frozen k
        have S5 := Lib.hid s5
        have K5 := Lib.hid k5
        clear hpr5 s5 k5
        obtain rfl : over = true := by rw [HO.out]; rfl
        clear cR0 cR1 cA cP
        go_quiet (fail)
        go_wp2_with fail
        go_ret
        exact ⟨rfl, _, _, _, (S5.out.drewN _).setO k false, .inl rfl, (K5.out.trans (keepL_drewN _ _ _)).trans (keepL_set _ (g 2) k (.bool false) (by simp))⟩
    · have e2 : (k0 == 2) = false := beq_eq_false_iff_ne.2 hk2
      have H1 := Lib.hid hk1
      have H2 := Lib.hid hk2
      clear hk1 hk2
      rcases Decidable.em (k0 = 3) with hk3 | hk3
      · have e3 : (k0 == 3) = true := by rw [hk3]; rfl
        have HK := Lib.hid hk3
        clear hk3
        obtain ⟨rfl, rfl, rfl⟩ : code = 2 ∧ h = h' ∧ more = [((k : Int), (l : Int))] := by
          have e := HE.out
          rw [HK.out] at e
          unfold stepF at e
          simp at e
          exact ⟨e.1.symm, e.2.1, e.2.2.symm⟩
        have cT11 : w2.cell? ⟨R, 11, none⟩ = some (.slice aT told.length cT) := s2.row.cell (i := 11) (by decide)
        have fT11 := s2.row.frozen 11
        obtain ⟨i0, hi, hz0, hz1, hz2⟩ := info_parts info51
        have lec := s2.own.le
        unfold maxLen at lec
        have bY : Below w2.heap.size w2 (w2.alloc (.cells #[.int .i64 (k : Int), .int .i64 (l : Int)] 51)).drew := (below_new _ _).drew
        have hRlt := s2.row.lt
        have dT11 : (w2.alloc (.cells #[.int .i64 (k : Int), .int .i64 (l : Int)] 51)).drew.cell? ⟨R, 11, none⟩ = _ := (bY.cell (p := ⟨R, 11, none⟩) hRlt).trans cT11
        have OO := Lib.hid (show (w2.alloc (.cells #[.int .i64 (k : Int), .int .i64 (l : Int)] 51)).drew.ownsRow Z 51 2 (.slice aT told.length cT) told.length (cells2 told) from s2.own.own.alloc _)
        have RR := Lib.hid (show Rd (w2.alloc (.cells #[.int .i64 (k : Int), .int .i64 (l : Int)] 51)).drew 2 (some ⟨w2.heap.size, 0, none⟩) 1 [.int .i64 (k : Int), .int .i64 (l : Int)] from (rd_new w2 #[.int .i64 (k : Int), .int .i64 (l : Int)] 51 2 1 rfl).drew)
        have NN := Lib.hid (Nat.le_trans s2.zw bY.size)
        have hfin : ∀ (v1 : Value) (z1 : World), z1.ownsRow Z 51 2 v1 (told.length + 1) (cells2 told ++ [.int .i64 (k : Int), .int .i64 (l : Int)]) → (w2.alloc (.cells #[.int .i64 (k : Int), .int .i64 (l : Int)] 51)).drew.grownBy z1 (Value.slice aT told.length cT).ownBlock →
            (v1.ownBlock = (Value.slice aT told.length cT).ownBlock ∨ v1.ownBlock = some (w2.alloc (.cells #[.int .i64 (k : Int), .int .i64 (l : Int)] 51)).drew.heap.size) →
            ∃ a' c' g', v1 = .slice a' (told.length + 1) c' ∧ z1.cell? ⟨R, 11, none⟩ = some (.slice aT told.length cT) ∧ z1.frozen? ⟨R, 11, none⟩ = false ∧ RW (z1.setCell ⟨R, 11, none⟩ (.slice a' (told.length + 1) c')) Z R g c n pr pc on (upI st k (st k + 1)) h a' c' g' (told ++ [((k : Int), (l : Int))]) ∧ (g' = gT ∨ w.heap.size ≤ g') ∧ KeepL w (z1.setCell ⟨R, 11, none⟩ (.slice a' (told.length + 1) c')) [R, g 1, g 2, g 3, gT] := by
          intro v1 z1 ho hg hat
          obtain ⟨a', c', g', e, q1, q2, q3, q4, q5⟩ := s2.tell (x := ((k : Int), (l : Int))) bY ho hg hat
          exact ⟨a', c', g', e, q1, q2, q3, q4.imp id (fun h => Nat.le_trans k2.size h), k2.trans (q5.mono (by simp))⟩
        have FIN := Lib.hid hfin
        have HOne := Lib.hid (show ∀ u ∈ ([.int .i64 (k : Int), .int .i64 (l : Int)] : List Value), u.oneCell' = true by simp [Value.oneCell'])
        clear hfin bY s2 k2
        go_upto_region 20 with fail
        go_region_law (((refine step_append_rd _ (by rfl) (.tmp 95) (.tmp 100) 42 (by rfl) Z 51 i0 _ 2 16 Try.underlying42 hi hz0 hz1 hz2 rfl (by omega) (.slice aT told.length cT) told.length (cells2 told) (by rfl) OO.out (some ⟨w2.heap.size, 0, none⟩) 1 1 [.int .i64 (k : Int), .int .i64 (l : Int)] (by rfl) RR.out HOne.out (by unfold maxLen; omega) (by omega) NN.out ?_; intro v1 z1 hown1 hgrow1 hat1 hnil1; obtain ⟨a', c', g', rfl, cT2, fT2, hS1, hG1, hK1⟩ := FIN.out v1 z1 hown1 hgrow1 hat1)))
        all_goals
          have sv := hS1
          have kv := hK1
          clear hS1 hK1 hown1 hgrow1 hat1 hnil1 cT2 fT2
          go_upto_region 21 with fail
          generalize z1.setCell ⟨R, 11, none⟩ (.slice a' (told.length + 1) c') = wv at *
          clear cT11 fT11 dT11 OO RR NN FIN cH fH y0 y1
          have cR1 : wv.cell? ⟨R, 1, none⟩ = some (.slice (some ⟨g 1, 0, none⟩) n (c 1)) := sv.row.cell (i := 1) (by decide)
          have cA := sv.aA.cell hk
          have fA := sv.aA.frozen k
          simp only [HPC.out] at cA
          have s5 := sv.setA k ((i + 1 : Nat) : Int)
          have k5 := kv.trans (keepL_set wv (S := [R, g 1, g 2, g 3, gT]) (g 1) k (.int .i64 ((i + 1 : Nat) : Int)) (by simp))
          have hpr5 := HPR.out
          clear sv kv
          go_upto_region 22 with fail
          rw [show (i : Int) + 1 = ((i + 1 : Nat) : Int) by omega]
          generalize wv.setCell ⟨g 1, k, none⟩ (.int .i64 ((i + 1 : Nat) : Int)) = w5 at *
          clear cR1 cA fA
          have cR0 : w5.cell? ⟨R, 0, none⟩ = some (.slice (some ⟨g 0, 0, none⟩) n (c 0)) := s5.row.cell (i := 0) (by decide)
          have cR1 : w5.cell? ⟨R, 1, none⟩ = some (.slice (some ⟨g 1, 0, none⟩) n (c 1)) := s5.row.cell (i := 1) (by decide)
          have cR2 : w5.cell? ⟨R, 2, none⟩ = some (.slice (some ⟨g 2, 0, none⟩) n (c 2)) := s5.row.cell (i := 2) (by decide)
          have cA : w5.cell? ⟨g 1, k, none⟩ = some (.int .i64 ((i + 1 : Nat) : Int)) := by
            rw [s5.aA.cell hk]; unfold upI; rw [if_pos rfl]
          have cP := s5.aP.cell hk
          rw [hpr5] at cP
          have cO := s5.aO.cell hk
          have fO := s5.aO.frozen k
          have S5 := Lib.hid s5
          have K5 := Lib.hid k5
          clear hpr5 s5 k5
          have hrest : over = decide (m ≤ i + 1) := by
            rw [HO.out, Bool.eq_iff_iff]
            unfold restF
            rw [if_neg (by decide), if_neg (by decide)]
            simp [HM.out]
          by_cases hlast : m ≤ i + 1
          · obtain rfl : over = true := by rw [hrest]; simp; exact hlast
            have d1 : decide (((i + 1 : Nat) : Int) ≥ (m : Int)) = true := by simp; omega
            have d2 : decide ((m : Int) ≤ ((i + 1 : Nat) : Int)) = true := by simp; omega
            have d3 : decide ((m : Int) ≤ (i : Int) + 1) = true := by simp; omega
            clear hrest hlast
            go_quiet (fail)
            go_wp2_with fail
            go_ret
            exact ⟨rfl, _, _, _, (S5.out.drewN _).setO k false, hG1, (K5.out.trans (keepL_drewN _ _ _)).trans (keepL_set _ (g 2) k (.bool false) (by simp))⟩
          · obtain rfl : over = false := by rw [hrest]; simp; omega
            have d1 : decide (((i + 1 : Nat) : Int) ≥ (m : Int)) = false := by simp; omega
            have d2 : decide ((m : Int) ≤ ((i + 1 : Nat) : Int)) = false := by simp; omega
            have d3 : decide ((m : Int) ≤ (i : Int) + 1) = false := by simp; omega
            clear hrest hlast
            go_quiet (fail)
            go_wp2_with fail
            go_ret
            exact ⟨rfl, _, _, _, S5.out.drewN _, hG1, K5.out.trans (keepL_drewN _ _ _)⟩
      · have e3 : (k0 == 3) = false := beq_eq_false_iff_ne.2 hk3
        have H3 := Lib.hid hk3
        clear hk3
        obtain ⟨rfl, rfl, rfl⟩ : code = 2 ∧ h = h' ∧ more = [] := by
          have e := HE.out
          unfold stepF at e
          simp [H1.out, H2.out, H3.out] at e
          exact ⟨e.1.symm, e.2.1, e.2.2⟩
        have sv := s2
        have kv := k2
        clear s2 k2
        obtain ⟨wv, rfl⟩ : ∃ wv, wv = w2 := ⟨_, rfl⟩
        go_upto_region 21 with fail
        clear cH fH y0 y1
        have cR1 : wv.cell? ⟨R, 1, none⟩ = some (.slice (some ⟨g 1, 0, none⟩) n (c 1)) := sv.row.cell (i := 1) (by decide)
        have cA := sv.aA.cell hk
        have fA := sv.aA.frozen k
        simp only [HPC.out] at cA
        have s5 := sv.setA k ((i + 1 : Nat) : Int)
        have k5 := kv.trans (keepL_set wv (S := [R, g 1, g 2, g 3, gT]) (g 1) k (.int .i64 ((i + 1 : Nat) : Int)) (by simp))
        have hpr5 := HPR.out
        clear sv kv
        rw [← List.append_nil told] at s5
        go_upto_region 22 with fail
        rw [show (i : Int) + 1 = ((i + 1 : Nat) : Int) by omega]
        generalize wv.setCell ⟨g 1, k, none⟩ (.int .i64 ((i + 1 : Nat) : Int)) = w5 at *
        clear cR1 cA fA
        have cR0 : w5.cell? ⟨R, 0, none⟩ = some (.slice (some ⟨g 0, 0, none⟩) n (c 0)) := s5.row.cell (i := 0) (by decide)
        have cR1 : w5.cell? ⟨R, 1, none⟩ = some (.slice (some ⟨g 1, 0, none⟩) n (c 1)) := s5.row.cell (i := 1) (by decide)
        have cR2 : w5.cell? ⟨R, 2, none⟩ = some (.slice (some ⟨g 2, 0, none⟩) n (c 2)) := s5.row.cell (i := 2) (by decide)
        have cA : w5.cell? ⟨g 1, k, none⟩ = some (.int .i64 ((i + 1 : Nat) : Int)) := by
          rw [s5.aA.cell hk]; unfold upI; rw [if_pos rfl]
        have cP := s5.aP.cell hk
        rw [hpr5] at cP
        have cO := s5.aO.cell hk
        have fO := s5.aO.frozen k
        have S5 := Lib.hid s5
        have K5 := Lib.hid k5
        clear hpr5 s5 k5
        have hrest : over = decide (m ≤ i + 1) := by
          rw [HO.out, Bool.eq_iff_iff]
          unfold restF
          rw [if_neg (by decide), if_neg (by decide)]
          simp [HM.out]
        by_cases hlast : m ≤ i + 1
        · obtain rfl : over = true := by rw [hrest]; simp; exact hlast
          have d1 : decide (((i + 1 : Nat) : Int) ≥ (m : Int)) = true := by simp; omega
          have d2 : decide ((m : Int) ≤ ((i + 1 : Nat) : Int)) = true := by simp; omega
          have d3 : decide ((m : Int) ≤ (i : Int) + 1) = true := by simp; omega
          clear hrest hlast
          go_quiet (fail)
          go_wp2_with fail
          go_ret
          exact ⟨rfl, _, _, _, (S5.out.drewN _).setO k false, .inl rfl, (K5.out.trans (keepL_drewN _ _ _)).trans (keepL_set _ (g 2) k (.bool false) (by simp))⟩
        · obtain rfl : over = false := by rw [hrest]; simp; omega
          have d1 : decide (((i + 1 : Nat) : Int) ≥ (m : Int)) = false := by simp; omega
          have d2 : decide ((m : Int) ≤ ((i + 1 : Nat) : Int)) = false := by simp; omega
          have d3 : decide ((m : Int) ≤ (i : Int) + 1) = false := by simp; omega
          clear hrest hlast
          go_quiet (fail)
          go_wp2_with fail
          go_ret
          exact ⟨rfl, _, _, _, S5.out.drewN _, .inl rfl, K5.out.trans (keepL_drewN _ _ _)⟩
end
end Go.Proofs.Ytjobdncikpnojaa
