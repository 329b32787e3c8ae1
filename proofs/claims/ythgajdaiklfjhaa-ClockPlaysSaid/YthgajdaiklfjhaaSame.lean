/-
  The walk of 'same': what is told is the document's.
-/
import Derived.Test.YthgajdaiklfjhaaDoc
import Derived.Test.YthgajdaiklfjhaaKnown
import Derived.Deep.RegionHeld3
import Derived.Test.YthgajdaiklfjhaaRFQ
import Derived.Deep.DeepCutAuto
import Derived.Deep.CutBlock
namespace Go.Proofs.Ythgajdaiklfjhaa
open Go.RowKit
attribute [local go_sem] Oper.semAt_some

theorem prefix_snocS {α : Type} {l p : List α} {x : α} (h : p <+: l) (hx : l[p.length]? = some x) : p ++ [x] <+: l := by
  obtain ⟨t, rfl⟩ := h
  rw [List.getElem?_append_right (Nat.le_refl _), Nat.sub_self] at hx
  cases t with
  | nil => simp at hx
  | cons y r => simp at hx; subst hx; exact ⟨r, by simp⟩
theorem not_prefixS {α : Type} {l p : List α} {x y : α} (hy : l[p.length]? = some y) (hne : y ≠ x) : ¬ (p ++ [x] <+: l) := by
  rintro ⟨t, rfl⟩
  rw [List.append_assoc, List.getElem?_append_right (Nat.le_refl _), Nat.sub_self] at hy
  simp at hy
  exact hne hy.symm
theorem eq_fnS (a : Fn) (b c : Array Value) (W : World) : Sem.run Try.prog (binOp BinOp.eql 36 (Value.func a b c) Value.nilFunc) W = .ok (.bool false) W := by kernel_rfl
theorem actN_eq {L : Rg} (o : OkC L) : actN L = actD L := by
  unfold actN actD
  rw [List.filter_map, List.length_map]
  congr 1
  apply List.filter_congr
  intro x hx
  show actP L x.1 = x.2.1
  unfold actP
  rw [markO_of o (m := x.2) hx]; rfl
/-- The worlds of 'same'. -/
structure SM (w0 w W : World) (D b g R : Nat) (a : Option Addr) (c X : Nat) (L : Rg) (stop : Int) (res : Bool) : Prop where
  st : St w0 W D b g L
  dk : DK W w0.heap.size R a c X L
  pb : Boxed W w.heap.size 42 (.pointer (some ⟨R, 0, none⟩))
  sb : Boxed W (w.heap.size + 1) 3 (.int .i64 stop)
  rb : Boxed W (w.heap.size + 2) 4 (.bool res)
  bl : Below w.heap.size w W
section
variable {w0 w W W' : World} {D b g R c X : Nat} {a : Option Addr} {L : Rg} {stop : Int} {res : Bool}
theorem SM.below (s : SM w0 w W D b g R a c X L stop res) (k : Below W.heap.size W W') : SM w0 w W' D b g R a c X L stop res :=
  ⟨s.st.belowW k, s.dk.below k, boxed_below s.pb k, boxed_below s.sb k, boxed_below s.rb k, below_then s.bl k⟩
theorem SM.only (s : SM w0 w W D b g R a c X L stop res) {d : Nat} (k : Only W W' d) (h : D < w.heap.size ∧ g < w.heap.size ∧ b < w.heap.size ∧ R < w.heap.size ∧ X < w.heap.size) (hw : w0.heap.size ≤ w.heap.size) (hd : w.heap.size + 3 ≤ d) : SM w0 w W' D b g R a c X L stop res :=
  ⟨s.st.only k ⟨by omega, by omega, by omega⟩ (by omega), s.dk.only k (by omega) (by omega), boxed_only s.pb k (by omega), boxed_only s.sb k (by omega), boxed_only s.rb k (by omega), below_only s.bl k (by omega)⟩
theorem SM.setR (s : SM w0 w W D b g R a c X L stop res) (h : D < w.heap.size ∧ g < w.heap.size ∧ b < w.heap.size ∧ R < w.heap.size ∧ X < w.heap.size) (hw : w0.heap.size ≤ w.heap.size) (r : Bool) : SM w0 w (W.setCell ⟨w.heap.size + 2, 0, none⟩ (.bool r)) D b g R a c X L stop r := by
  have k := only_set (only_refl W (w.heap.size + 2)) 0 (.bool r)
  exact ⟨s.st.only k ⟨by omega, by omega, by omega⟩ (by omega), s.dk.only k (by omega) (by omega), boxed_only s.pb k (by omega), boxed_only s.sb k (by omega), s.rb.set _, below_only s.bl k (by omega)⟩
theorem SM.step (s : SM w0 w W D b g R a c X L stop res) {B : Nat} (k : Step B W W') (hb : b < B) (hw : w.heap.size ≤ B) (hw0 : w0.heap.size ≤ w.heap.size) : SM w0 w W' D b g R a c X L stop res :=
  ⟨s.st.step k hb (by omega), ⟨rowIs_step s.dk.row k, s.dk.own.step k, s.dk.ok, s.dk.xn⟩, boxed_step s.pb k, boxed_step s.sb k, boxed_step s.rb k, s.bl.trans (k.below hw s.bl.size)⟩
end
theorem active_doc {w0 w : World} {D b g : Nat} {L : Rg} (s : St w0 w D b g L) (hn : L.length ≤ 1000000) : Calls Try.prog 18 #[.pointer (some ⟨D, 0, none⟩)] w fun e w' => e = .returned (.int .i64 (actD L)) ∧ Below w.heap.size w w' := by
  rw [← actN_eq s.ok]
  exact active_st s hn
set_option maxRecDepth 100000 in
set_option maxHeartbeats 4000000 in
theorem same_any {w0 w : World} {D b g R c X : Nat} {a : Option Addr} {L : Rg} (s : St w0 w D b g L) (d : DK w w0.heap.size R a c X L) (hR : w0.heap.size ≤ R) (hn : L.length ≤ 1000000) {frame : Int} (hf : kdI frame) (stop : Int) :
    Calls Try.prog 24 #[.pointer (some ⟨D, 0, none⟩), .pointer (some ⟨R, 0, none⟩), .int .i64 frame, .int .i64 stop] w fun e w' => e = .returned (.bool true) ∧ Below w.heap.size w w' := by
  refine calls_of_wp_marks Try.func24 rfl ?_
  simp only [Try.ntmps24, List.size_toArray, List.length_cons, List.length_nil, Nat.reduceAdd, Nat.reduceSub, Array.replicate_succ, Array.replicate_zero, List.push_toArray, List.append_toArray, List.nil_append, List.cons_append]
  have hlts : D < w.heap.size ∧ g < w.heap.size ∧ b < w.heap.size ∧ R < w.heap.size ∧ X < w.heap.size := ⟨s.ltD.2, s.ltg.2, s.ltb.2, d.row.lt, d.ltX⟩
  have hw0 : w0.heap.size ≤ w.heap.size := s.below.size
  have b3 : Below w.heap.size w (((w.alloc (.cells #[.pointer (some ⟨R, 0, none⟩)] 42)).alloc (.cells #[.int .i64 stop] 3)).alloc (.cells #[.bool false] 4)) := below_alloc (below_alloc (below_new _ _) _) _
  have s3 : SM w0 w (((w.alloc (.cells #[.pointer (some ⟨R, 0, none⟩)] 42)).alloc (.cells #[.int .i64 stop] 3)).alloc (.cells #[.bool false] 4)) D b g R a c X L stop false := by
    refine ⟨s.belowW b3, d.below b3, ((Boxed.new w 42 _).alloc _).alloc _, ?_, ?_, b3⟩
    · have := (Boxed.new (w.alloc (.cells #[.pointer (some ⟨R, 0, none⟩)] 42)) 3 (.int .i64 stop)).alloc (.cells #[.bool false] 4)
      rw [World.size_alloc] at this
      exact this
    · have := Boxed.new ((w.alloc (.cells #[.pointer (some ⟨R, 0, none⟩)] 42)).alloc (.cells #[.int .i64 stop] 3)) 4 (.bool false)
      rw [World.size_alloc, World.size_alloc] at this
      exact this
  obtain ⟨hs, fi, hfi⟩ : ∃ hs : Bool, ∃ fi : Int, hasC L frame = hs ∧ findI L frame = fi ∧ (hs = true ∧ 0 ≤ fi ∨ hs = false ∧ fi = -1) := by
    have hh := findO_has L frame
    refine ⟨_, _, rfl, rfl, ?_⟩
    unfold findI
    cases hfo : findO L frame with
    | none => right; rw [← hh, hfo]; exact ⟨rfl, rfl⟩
    | some k => left; rw [← hh, hfo]; exact ⟨rfl, by simp⟩
  obtain ⟨hh1, hh2, hh3⟩ := hfi
  have HH1 := Lib.hid hh1
  have HH2 := Lib.hid hh2
  clear s d b3 hh1 hh2
  go_upto_region 1 with fail
  generalize ((w.alloc (.cells #[.pointer (some ⟨R, 0, none⟩)] 42)).alloc (.cells #[.int .i64 stop] 3)).alloc (.cells #[.bool false] 4) = W3 at *
  have sD := s3.below (Below.refl W3.heap.size W3).drew
  have p0 := sD.pb.cell
  have r0 := sD.dk.r0
  have hlc := sD.dk.lec
  go_cut [35] from 11 to 35 (fun c35 wx => c35 = .bool false ∧ SM w0 w wx D b g R a c X L stop false)
  case first =>
    rcases hh3 with ⟨rfl, hfi0⟩ | ⟨rfl, rfl⟩
    all_goals
      go_region_held3 (fun w' => w'.cell? ⟨w.heap.size, 0, none⟩ = some (.pointer (some ⟨R, 0, none⟩)) ∧ w'.cell? ⟨R, 0, none⟩ = some (.slice a L.length c))
        (first | exact ⟨s5.pb.cell, s5.dk.r0⟩ | exact ⟨s4.pb.cell, s4.dk.r0⟩ | exact ⟨sD.pb.cell, sD.dk.r0⟩ | go_keep)
        (first
          | (go_at_call 15; refine (len_st sD.st rfl).mono ?_; rintro e w' ⟨rfl, rfl⟩)
          | (go_at_call 18; refine (active_doc sD.st hn).mono ?_; rintro e W4 ⟨rfl, b4⟩; have s4 := sD.below b4)
          | (go_at_call 32; refine (act_any s4.dk hn).mono ?_; rintro e w' ⟨rfl, rfl⟩)
          | (go_at_call 16; refine (has_st s4.st hf HH1.out).mono ?_; rintro e W5 ⟨rfl, b5⟩; have s5 := s4.below b5)
          | (go_at_call 31; have hfd := find_any s5.dk hn frame; rw [HH2.out] at hfd; refine hfd.mono ?_; rintro e w' ⟨rfl, rfl⟩))
      go_wp2_with fail
      go_meet
      exact ⟨rfl, s5⟩
  case rest =>
    clear s3 sD p0 r0 hh3
    obtain ⟨rfl, sC⟩ := hcut
    have heq := eq_fnS
    have bN := below_new wc (.cells #[.int .i64 0] 3)
    have sN := sC.below bN
    have nN := Boxed.new wc 3 (.int .i64 0)
    have hnb : w.heap.size + 3 ≤ wc.heap.size := by have := sC.rb.lt; omega
    clear sC bN
    go_wp2_with fail
    generalize hnbe : wc.heap.size = nb at *
    generalize wc.alloc (.cells #[.int .i64 0] 3) = W4 at *
    clear hnbe
    refine (all_any (some ⟨D, 0, none⟩) W4).mono ?_
    rintro e W5 ⟨rfl, rfl⟩
    have b5 := below_new W4 (.cells #[.pointer (some ⟨D, 0, none⟩)] 25)
    have s5 := sN.below b5
    have n5 := boxed_below nN b5
    clear sN nN b5
    go_wp2_with fail
    generalize W4.alloc (.cells #[.pointer (some ⟨D, 0, none⟩)] 25) = W5 at *
    refine (all_any (some ⟨D, 0, none⟩) W5).mono ?_
    rintro e W6 ⟨rfl, rfl⟩
    have b6 := below_new W5 (.cells #[.pointer (some ⟨D, 0, none⟩)] 25)
    have s6 := s5.below b6
    have n6 := boxed_below n5 b6
    have hX := Boxed.new W5 25 (.pointer (some ⟨D, 0, none⟩))
    clear s5 n5 b6
    go_wp2_with fail
    generalize hXx : W5.heap.size = Xx at *
    generalize W5.alloc (.cells #[.pointer (some ⟨D, 0, none⟩)] 25) = W6 at *
    clear hXx
    have hah : Ahead W6 nb (fun k => k = nb ∨ k = w.heap.size + 2) := ⟨fun k hk => by rcases hk with rfl | rfl; exact n6.lt; exact s6.rb.lt, n6.lt, fun d o n c hd => by rw [n6.cell] at hd; cases hd⟩
    have hT := tells_st s6.st hn hX hah (id : Int → Int) (Ls := L.map Prod.fst) (by simp)
    have HT := Lib.hid hT
    have HAH := Lib.hid hah
    have hb6 := s6.st.ltb.2
    have hw6 := s6.bl.size
    clear hT hah hX
    refine wp_rangeS1 (α := Int) 41 10 (gf := 28) (lb := #[.pointer (some ⟨Xx, 0, none⟩)]) rfl (fun _ _ => by kernel_rfl) HT.out HAH.out
      (fun pre W => SM w0 w W D b g R a c X L stop false ∧ Boxed W nb 3 (.int .i64 (pre.length : Int)) ∧ pre <+: L.map Prod.fst ∧ W6.heap.size ≤ W.heap.size)
      (fun c' pre W => c' = .ret ∧ (¬ (pre <+: L.map Prod.fst) ∨ (SM w0 w W D b g R a c X L stop true ∧ W6.heap.size ≤ W.heap.size)))
      (fun pre W W' h st => ⟨h.1.step st hb6 hw6 hw0, boxed_step h.2.1 st, h.2.2.1, Nat.le_trans h.2.2.2 st.size⟩) (fun c' pre W W' h st => ⟨h.1, h.2.imp id (fun h => ⟨h.1.step st hb6 hw6 hw0, Nat.le_trans h.2 st.size⟩)⟩) ⟨s6, n6, List.nil_prefix, Nat.le_refl _⟩ ?assign ?body ?done ?stop
    case assign =>
      intro l x W K hK
      gi_wp2
      exact hK
    case stop =>
      rintro M c' pre W hM hpre ⟨rfl, hx⟩ hk
      rcases hx with hx | ⟨s7, hsz7⟩
      · exact absurd hpre hx
      · have mk : Marks w.heap.size W [M] := ⟨fun D' h' => by obtain rfl := List.mem_singleton.1 h'; exact ⟨by omega, hk⟩, by simp⟩
        have hrb := s7.rb
        go_wp2_with fail
        refine leaves_marks (B := w.heap.size) [M] _ s7.bl.size mk ?_
        intro w' sh
        have hc' := shut_cell sh hrb.cell
        exact ⟨_, by simp [results, Try.results24, go_sem, hc'], rfl, s7.bl.trans sh.below⟩
    case done =>
      rintro M W hM ⟨s7, n7, -, hsz7⟩ hk
      have mk : Marks w.heap.size W [M] := ⟨fun D' h' => by obtain rfl := List.mem_singleton.1 h'; exact ⟨by omega, hk⟩, by simp⟩
      rw [List.length_map] at n7
      have p0 := s7.pb.cell
      have r0 := s7.dk.r0
      have cn := n7.cell
      have hlc := s7.dk.lec
      have c8 := s7.rb.cell
      have f8 := s7.rb.frozen
      have hneR : R ≠ w.heap.size + 2 := by omega
      have s8 := (s7.setR hlts hw0 true).below (Below.refl _ _).drew
      have mk8 : Marks w.heap.size (W.setCell ⟨w.heap.size + 2, 0, none⟩ (.bool true)).drew [M] := (mk.set _ _).below (Below.refl _ _).drew
      have HS8 := Lib.hid s8
      have HM8 := Lib.hid mk8
      clear s8 mk8
      have q1 : ((L.length : Int) == (L.length : Int)) = true := by simp
      have q2 : (L.length == L.length) = true := by simp
      go_wp2_with fail
      go_region
      all_goals
        go_wp2_with fail
        refine leaves_marks (B := w.heap.size) [M] _ HS8.out.bl.size HM8.out ?_
        intro w' sh
        have hc' := shut_cell sh HS8.out.rb.cell
        exact ⟨_, by simp [results, Try.results24, go_sem, hc'], rfl, HS8.out.bl.trans sh.below⟩
    case body =>
      rintro l pre x W hl ⟨s7, n7, hp7, hsz7⟩ hlen
      simp only [List.setIfInBounds_toArray, List.set_cons_zero, List.set_cons_succ]
      rw [List.length_map] at hlen
      obtain ⟨y, hy⟩ := get_en (L := L) hlen
      have hyf : (L.map Prod.fst)[pre.length]? = some y.1 := by rw [List.getElem?_map, hy]; rfl
      have p0 := s7.pb.cell
      have r0 := s7.dk.r0
      have cn := n7.cell
      have fn := n7.frozen
      have cs := s7.sb.cell
      have c8 := s7.rb.cell
      have f8 := s7.rb.frozen
      have hlc := s7.dk.lec
      have cy := s7.dk.fst hy
      have hpos := s7.dk.pos (by omega)
      subst hpos
      have hpl6 : pre.length ≤ 1000000 := by omega
      have HPN := Lib.hid (fun (h : ¬ y.1 = x) => not_prefixS hyf h)
      have HPY := Lib.hid (fun (h : y.1 = x) => prefix_snocS (x := x) hp7 (by rw [hyf, h]))
      have HLX := Lib.hid (show ((pre ++ [x]).length : Int) = (pre.length : Int) + 1 by simp)
      have hwd : ∀ d, Below W.heap.size W (W.drewN d) := fun d => below_drewN (Below.refl _ _) d
      have HS := Lib.hid (fun d => s7.below (hwd d))
      have HN := Lib.hid (fun d => boxed_below n7 (hwd d))
      have HZ := Lib.hid hsz7
      have hBl : nb < W.heap.size := n7.lt
      have h2l : w.heap.size + 2 < W.heap.size := s7.rb.lt
      generalize hpll : pre.length = pl at *
      have d1 : decide ((L.length : Int) ≤ (pl : Int)) = false := by simp; omega
      have d2 : decide (L.length ≤ pl) = false := by simp; omega
      have i1 : (0 : Int) ≤ (pl : Int) := by omega
      have i2 : (pl : Int) < (L.length : Int) := by omega
      have HPL := Lib.hid hpll
      clear hp7 hsz7 s7 n7 hy hyf hwd hpll
      by_cases hyx : y.1 = x
      · have q1 : (y.1 != x) = false := by rw [hyx]; simp
        have HX := Lib.hid (HPY.out hyx)
        clear hyx
        have hn1 : w.heap.size + 1 ≠ nb := by omega
        have hn2 : nb ≠ w.heap.size + 1 := by omega
        have hn3 : w.heap.size + 2 ≠ nb := by omega
        have hn4 : nb ≠ w.heap.size + 2 := by omega
        have hkp : ∀ d, KpS (SafeB nb fun k => k = nb ∨ k = w.heap.size + 2) W ((W.drewN d).setCell ⟨nb, 0, none⟩ (.int .i64 ((pl : Int) + 1))) := fun d =>
          (kpS_below (below_drewN (Below.refl _ _) d) hBl).trans (kpS_set (.inl rfl) hBl (fun _ e o n c => by simp) (by rw [(HN.out d).cell]; rfl))
        have HKP := Lib.hid hkp
        clear hkp
        by_cases hst : (pl : Int) + 1 = stop
        · have q3 : (((pl : Int) + 1) == stop) = true := by rw [hst]; simp
          clear hst
          gi_wp2
          refine region_quiet_round rfl (by kernel_rfl) (by kernel_rfl) (by kernel_rfl) ?_
          repeat (gi_big_quiet_step (fail))
          refine wpQuietIn_nil ?_
          intro _ hw'
          obtain ⟨nq, hw''⟩ := hw'
          subst hw''
          gi_wp2
          exact ⟨(keeps_below (below_drewN (Below.refl _ _) nq)).trans ((keeps_set _ _ _).trans (keeps_set _ _ _)), rfl, .inr ⟨((HS.out nq).only (only_set (only_refl _ nb) 0 (.int .i64 ((pl : Int) + 1))) hlts hw0 hnb).setR hlts hw0 true, by simpa [World.setCell] using HZ.out⟩⟩
        · have q3 : (((pl : Int) + 1) == stop) = false := beq_eq_false_iff_ne.2 hst
          clear hst
          gi_wp2
          refine region_quiet_round rfl (by kernel_rfl) (by kernel_rfl) (by kernel_rfl) ?_
          repeat (gi_big_quiet_step (fail))
          refine wpQuietIn_nil ?_
          intro _ hw'
          obtain ⟨nq, hw''⟩ := hw'
          subst hw''
          gi_wp2
          exact ⟨(keeps_below (below_drewN (Below.refl _ _) nq)).trans (keeps_set _ _ _), HKP.out nq, (HS.out nq).only (only_set (only_refl _ nb) 0 (.int .i64 ((pl : Int) + 1))) hlts hw0 hnb, by rw [HLX.out]; exact (HN.out nq).set _, HX.out, by simpa [World.setCell] using HZ.out⟩
      · have q1 : (y.1 != x) = true := by rw [bne_iff_ne]; exact hyx
        have HX := Lib.hid (HPN.out hyx)
        clear hyx
        gi_wp2
        refine region_quiet_round rfl (by kernel_rfl) (by kernel_rfl) (by kernel_rfl) ?_
        repeat (gi_big_quiet_step (fail))
        refine wpQuietIn_nil ?_
        intro _ hw'
        obtain ⟨nq, hw''⟩ := hw'
        subst hw''
        gi_wp2
        exact ⟨(keeps_below (below_drewN (Below.refl _ _) nq)).trans (keeps_set _ _ _), rfl, .inl HX.out⟩
end Go.Proofs.Ythgajdaiklfjhaa
