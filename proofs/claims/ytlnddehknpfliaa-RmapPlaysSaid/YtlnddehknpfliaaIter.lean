/-
  The walks of Of and of what it hands back.
-/
import Derived.Test.YtlnddehknpfliaaKnown
import Derived.Test.YtlnddehknpfliaaRF
import Derived.Sort.QuietIn
namespace Go.Proofs.Ytlnddehknpfliaa
open Go.RowKit
attribute [local go_sem] Oper.semAt_some

/-- The pages ahead of m of a process that have frames, and those, by rising pages. -/
def ofL (n : Nat) (f : Fr) (pid : Int) (m : Nat) : List (Nat × Nat) := (List.range m).filterMap fun (p : Nat) => (findO n f (pid, (p : Int))).map fun (k : Nat) => (p, k)
theorem ofL_succ (n : Nat) (f : Fr) (pid : Int) (m : Nat) : ofL n f pid (m + 1) = ofL n f pid m ++ (match findO n f (pid, (m : Int)) with | some k => [(m, k)] | none => []) := by
  unfold ofL
  rw [List.range_succ, List.filterMap_append]
  congr 1
  cases h : findO n f (pid, (m : Int)) <;> simp [h]
theorem ofL_in {n m k : Nat} {f : Fr} {pid : Int} (h : findO n f (pid, (m : Int)) = some k) : ofL n f pid (m + 1) = ofL n f pid m ++ [(m, k)] := by rw [ofL_succ, h]
theorem ofL_out {n m : Nat} {f : Fr} {pid : Int} (h : findO n f (pid, (m : Int)) = none) : ofL n f pid (m + 1) = ofL n f pid m := by rw [ofL_succ, h]; simp
theorem ofL_prefix {n : Nat} {f : Fr} {pid : Int} {M : Nat} : ∀ {m : Nat}, m ≤ M → ofL n f pid m <+: ofL n f pid M := by
  induction M with
  | zero =>
    intro m hm
    obtain rfl : m = 0 := by omega
    exact List.prefix_refl _
  | succ M ih =>
    intro m hm
    rcases Nat.lt_or_ge M m with h | h
    · obtain rfl : m = M + 1 := by omega
      exact List.prefix_refl _
    · exact (ih h).trans (by rw [ofL_succ]; exact List.prefix_append _ _)
theorem ofL_lt_len {n m M k : Nat} {f : Fr} {pid : Int} (hm : m < M) (h : findO n f (pid, (m : Int)) = some k) : (ofL n f pid m).length < (ofL n f pid M).length := by
  have := (ofL_prefix (n := n) (f := f) (pid := pid) (m := m + 1) (M := M) (by omega)).length_le
  rw [ofL_in h] at this
  simp at this
  omega

theorem of_any (v : Option Addr) (pid : Int) (w : World) : Calls Try.prog 14 #[.pointer v, .int .i64 pid] w fun e w' =>
    e = .returned (.func (.func 21) #[] #[.pointer (some ⟨w.heap.size, 0, none⟩), .pointer (some ⟨w.heap.size + 1, 0, none⟩)]) ∧ w' = (w.alloc (.cells #[.pointer v] 26)).alloc (.cells #[.int .i64 pid] 3) := by
  go_enter Try.func14, Try.ntmps14
  go_wp2
  go_ret
  exact ⟨rfl, rfl⟩

/-- What the walk over the pages reads. -/
def keepT (X Y D b : Nat) (k : Nat) : Prop := k = X ∨ k = Y ∨ k = D ∨ k = b
abbrev encT (x : Nat × Nat) : Array Value := #[.int .i64 (x.1 : Int), .int .i64 (x.2 : Int)]

set_option maxRecDepth 100000 in
set_option maxHeartbeats 2000000 in
theorem tells_of {w : World} {base D F b n c X Y : Nat} {f : Fr} {pid : Int} (hp : (Lit.int .i64 pid).wf = true) (s : TT w base D F b n c f) (hX : Boxed w X 26 (.pointer (some ⟨D, 0, none⟩))) (hY : Boxed w Y 3 (.int .i64 pid)) :
    Tells Try.prog 21 #[.pointer (some ⟨X, 0, none⟩), .pointer (some ⟨Y, 0, none⟩)] encT (keepT X Y D b) (ofL n f pid 1024) w := by
  intro l J Jx W hW hJ hJx hYd h0
  have s' := s.below hW
  have hX' := boxed_below hX hW
  have hY' := boxed_below hY hW
  clear s hX hY
  have hn := s'.le
  have hc := s'.lec
  have hx := hX'.cell
  refine callsIn_of_wp Try.func21 rfl trivial ?_ rfl
  simp only [Try.ntmps21, List.size_toArray, List.length_cons, List.length_nil, Nat.reduceAdd, Nat.reduceSub, Array.replicate_succ, Array.replicate_zero, List.push_toArray, List.append_toArray, List.nil_append, List.cons_append]
  gi_wp2
  gi_loopw [9] (fun i wr => ∃ m : Nat, m ≤ 1024 ∧ i = .int .i64 m ∧ J (ofL n f pid m) wr ∧ Kept (keepT X Y D b) W wr) (fun i _ => 1024 - (intOf i).toNat)
  case atStart => exact ⟨0, Nat.zero_le _, rfl, by rw [show ofL n f pid 0 = [] from rfl]; exact h0, fun _ _ => rfl⟩
  case round =>
    obtain ⟨m, hm, rfl, hJs, hkp⟩ := hrel
    have hx1 : wr.cell? ⟨X, 0, none⟩ = some (.pointer (some ⟨D, 0, none⟩)) := (World.cell?_of_block (w := W) (hkp X (.inl rfl))).trans hx
    have hy1 : wr.cell? ⟨Y, 0, none⟩ = some (.int .i64 pid) := (World.cell?_of_block (w := W) (hkp Y (.inr (.inl rfl)))).trans hY'.cell
    have hs1 : wr.cell? ⟨D, 1, none⟩ = some (.map (some b)) := (World.cell?_of_block (w := W) (hkp D (.inr (.inr (.inl rfl))))).trans s'.s1
    have hlk := s'.map.of_block (hkp b (.inr (.inr (.inr rfl))))
    by_cases hlt : m < 1024
    · have hkd : kdP (pid, (m : Int)) := ⟨hp, wf64 (by omega) (by omega)⟩
      have hJd : ∀ d, J (ofL n f pid m) (wr.drewN d) := fun d => hJ _ wr (wr.drewN d) none hJs ⟨rfl, rfl, rfl, Nat.le_refl _, fun _ _ _ => rfl⟩ (fun r e => by cases e)
      cases hf : findO n f (pid, (m : Int)) with
      | none =>
        have hl : ∀ d, (Instr.lookup 52 (.map (some b)) (.agg #[.int .i64 pid, .int .i64 m]) true).run Try.prog (wr.drewN d) = .ok (.tuple #[.int .i64 0, .bool false]) (wr.drewN d) := fun d => by
          have := (hlk.drewN d).look KP (t := 52) (e := 3) Try.underlying52 (z := .int .i64 0) (fun W => by kernel_rfl) hkd true
          simpa [encP, mapM, hf] using this
        have E1 := Lib.hid (ofL_out hf)
        clear hf
        gi_wp2
        gi_quiet (fail)
        gi_wp2
        refine ⟨fun _ h => (by cases h), ?_⟩
        gi_wp2
        go_roundw
        case rel => exact ⟨m + 1, by omega, by go_num, by rw [E1.out]; exact hJd _, hkp⟩
        case measure => simp [intOf]; omega
      | some k =>
        have hl : ∀ d, (Instr.lookup 52 (.map (some b)) (.agg #[.int .i64 pid, .int .i64 m]) true).run Try.prog (wr.drewN d) = .ok (.tuple #[.int .i64 k, .bool true]) (wr.drewN d) := fun d => by
          have := (hlk.drewN d).look KP (t := 52) (e := 3) Try.underlying52 (z := .int .i64 0) (fun W => by kernel_rfl) hkd true
          simpa [encP, mapM, hf] using this
        have E1 := Lib.hid (ofL_in hf)
        have HL := Lib.hid (ofL_lt_len hlt hf)
        have HP := Lib.hid (ofL_prefix (n := n) (f := f) (pid := pid) (m := m + 1) (M := 1024) (by omega))
        have HY := Lib.hid hYd
        clear hf hYd
        gi_wp2
        gi_quiet (fail)
        obtain ⟨fn, tmps, assign, body, hy, hR⟩ := HY.out _ (m, k) _ (hJd nq) HL.out
        gi_wp2
        refine hR.mono ?_
        rintro e W3 (⟨rfl, hJ3, hk3⟩ | ⟨rfl, hJx3⟩)
        · gi_wp2
          go_roundw
          case rel => exact ⟨m + 1, by omega, by go_num, by rw [E1.out]; exact hJ3, fun j hj => (hk3 j hj).trans (hkp j hj)⟩
          case measure => simp [intOf]; omega
        · gi_wp2
          refine bodyPost_ret (results_none rfl _ _ _) rfl ?_
          exact ⟨⟨_, rfl⟩, .inr ⟨_, by rw [← E1.out]; exact HP.out, hJx3⟩⟩
    · obtain rfl : m = 1024 := by omega
      gi_wp2
      go_end0
      exact ⟨⟨_, rfl⟩, .inl ⟨_, rfl, hJs⟩⟩
end Go.Proofs.Ytlnddehknpfliaa
