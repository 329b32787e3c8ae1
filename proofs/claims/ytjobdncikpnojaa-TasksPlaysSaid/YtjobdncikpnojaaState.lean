/-
  The CPUs' table, the locks and what was told, together; a step of a program.
-/
import Derived.Test.YtjobdncikpnojaaStep
namespace Go.Proofs.Ytjobdncikpnojaa
open Go.RowKit
theorem TT.of_blocks {w w' : World} {T B n : Nat} {nx : Nat → Value} {dn : Nat → Int} (t : TT w T B n nx dn) (h1 : w'.heap[T]? = w.heap[T]?) (h2 : w'.heap[B]? = w.heap[B]?) : TT w' T B n nx dn :=
  ⟨(World.cell?_of_block (a := ⟨T, 0, none⟩) h1).trans t.t0, t.ne, t.row.of_block h2, t.le⟩
/-- All that a law of this seat looks at. -/
structure SW (w0 w : World) (T B n : Nat) (nx : Nat → Value) (dn : Nat → Int) (Z K TB : Nat) (h : Lk.Hold) (a : Option Addr) (c g : Nat) (told : List (Int × Int)) : Prop where
  tt : TT w T B n nx dn
  lw : LW w Z K TB h a c g told
  bl : Below w0.heap.size w0 w
  lo : w0.heap.size ≤ T ∧ w0.heap.size ≤ B ∧ w0.heap.size ≤ K ∧ w0.heap.size ≤ TB
  hi : T < Z ∧ B < Z ∧ K < Z ∧ TB < Z
  ne : T ≠ K ∧ T ≠ TB ∧ B ≠ K ∧ B ≠ TB
  zw : Z ≤ w.heap.size
section
variable {w0 w w' : World} {T B n : Nat} {nx : Nat → Value} {dn : Nat → Int} {Z K TB c g : Nat} {h : Lk.Hold} {a : Option Addr} {told : List (Int × Int)}
theorem SW.neg (s : SW w0 w T B n nx dn Z K TB h a c g told) : T ≠ g ∧ B ≠ g ∧ w0.heap.size ≤ g := by
  cases a with
  | none => rw [s.lw.gn rfl]; exact ⟨s.ne.2.1, s.ne.2.2.2, s.lo.2.2.2⟩
  | some ad =>
    have h1 := (s.lw.own.blk ad rfl).2.1
    have h2 := s.hi
    have h3 := s.lo
    exact ⟨by omega, by omega, by omega⟩
theorem SW.below (s : SW w0 w T B n nx dn Z K TB h a c g told) (k : Below w.heap.size w w') : SW w0 w' T B n nx dn Z K TB h a c g told :=
  ⟨s.tt.of_blocks (k.block T s.tt.lt) (k.block B s.tt.ltB), s.lw.below k, s.bl.trans (k.mono s.bl.size), s.lo, s.hi, s.ne, Nat.le_trans s.zw k.size⟩
/-- A store into the slots. -/
theorem SW.slot (s : SW w0 w T B n nx dn Z K TB h a c g told) {nx' : Nat → Value} {dn' : Nat → Int} {o : Nat} {v : Value} (t : TT (w.setCell ⟨B, o, none⟩ v) T B n nx' dn') : SW w0 (w.setCell ⟨B, o, none⟩ v) T B n nx' dn' Z K TB h a c g told ∧ KeepT w (w.setCell ⟨B, o, none⟩ v) := by
  have on := only_set (only_refl w B) o v
  have hn := s.neg
  refine ⟨⟨t, s.lw.only on ⟨s.ne.2.2.1.symm, s.ne.2.2.2.symm, hn.2.1.symm⟩, below_only s.bl on s.lo.2.1, s.lo, s.hi, s.ne, Nat.le_trans s.zw on.size⟩, ?_⟩
  obtain ⟨cs, hcs⟩ := cells_of_row s.tt.row
  exact keepT_only on hcs (.inl rfl)
/-- A step's turn. -/
theorem SW.done (s : SW w0 w T B n nx dn Z K TB h a c g told) {h' : Lk.Hold} {told' : List (Int × Int)} (d : Done w w' Z K TB g h' told') : ∃ a' c' g', SW w0 w' T B n nx dn Z K TB h' a' c' g' told' ∧ KeepT w w' := by
  obtain ⟨a', c', g', l, hg, k⟩ := d
  have hn := s.neg
  exact ⟨a', c', g', ⟨s.tt.of_blocks (k.block T s.tt.lt s.ne.1 s.ne.2.1 hn.1) (k.block B s.tt.ltB s.ne.2.2.1 s.ne.2.2.2 hn.2.1), l, below_tri s.bl k s.lo.2.2.1 s.lo.2.2.2 hn.2.2, s.lo, s.hi, s.ne, Nat.le_trans s.zw k.size⟩, s.lw.keepT k⟩
/-- What is left of a program behind a step. -/
def restF (code : Nat) (x : Int × Int) (r : List (Int × Int)) : List (Int × Int) := if code = 0 then [] else if code = 1 then x :: r else r
set_option maxHeartbeats 1000000 in
theorem run_step (s : SW w0 w T B n nx dn Z K TB h a c g told) (k : Nat) (hk : k < n) (f : Bool) {who : Int} (hwho : who ≤ 9223372036854775807) {x : Int × Int} {r : List (Int × Int)} (hp : PB w K TB who (nx k) (x :: r)) (hd : 0 ≤ dn k) (hd2 : dn k < 1000000) (hn : told.length ≤ 1000000) :
    Calls Try.prog 8 #[ptr T, .int .i64 (k : Int), .bool f] w fun e w' => ∃ v2 a' c' g', e = .returned (.tuple #[.bool (restF (stepF who h x).1 x r).isEmpty, .int .i64 0]) ∧
      SW w0 w' T B n (upV nx k v2) (upI dn k (dn k + 1)) Z K TB (stepF who h x).2.1 a' c' g' (told ++ (stepF who h x).2.2) ∧ KeepT w w' ∧ PB w' K TB who v2 (restF (stepF who h x).1 x r) := by
  obtain ⟨v', ha, hr⟩ := hp
  have hv := hr.stepV
  obtain ⟨s1, k1⟩ := s.slot (s.tt.setD k (dn k + 1))
  have ha1 := ha.keep k1
  have hfin : ∀ (v : Value) (w2 : World), v = goOn (stepF who h x).1 (nx k) v' → Done (w.setCell ⟨B, k * 2 + 1, none⟩ (.int .i64 (dn k + 1))) w2 Z K TB g (stepF who h x).2.1 (told ++ (stepF who h x).2.2) →
      ∃ a' c' g', SW w0 w2 T B n nx (upI dn k (dn k + 1)) Z K TB (stepF who h x).2.1 a' c' g' (told ++ (stepF who h x).2.2) ∧ KeepT w w2 ∧ PB w2 K TB who v (restF (stepF who h x).1 x r) := by
    intro v w2 hve hdn
    obtain ⟨a', c', g', s2, k2⟩ := s1.done hdn
    have k12 := k1.trans k2
    refine ⟨a', c', g', s2, k12, ?_⟩
    subst hve
    unfold goOn restF
    split
    · exact rfl
    · split
      · exact ⟨v', ha.keep k12, hr.keep k12⟩
      · exact hr.keep k12
  have key : ∀ (F : Nat) (cap : Array Value), nx k = .func (.func F) #[] cap → (∀ (xs : Array Value) (W : World), Sem.run Try.prog (callFunc F xs) W = .ok (.enter F xs) W) →
      (Calls Try.prog F (#[.bool f] ++ cap) (w.setCell ⟨B, k * 2 + 1, none⟩ (.int .i64 (dn k + 1))) fun e w' => e = .returned (goOn (stepF who h x).1 (nx k) v') ∧ Done (w.setCell ⟨B, k * 2 + 1, none⟩ (.int .i64 (dn k + 1))) w' Z K TB g (stepF who h x).2.1 (told ++ (stepF who h x).2.2)) →
      Calls Try.prog 8 #[ptr T, .int .i64 (k : Int), .bool f] w fun e w' => ∃ v2 a' c' g', e = .returned (.tuple #[.bool (restF (stepF who h x).1 x r).isEmpty, .int .i64 0]) ∧
        SW w0 w' T B n (upV nx k v2) (upI dn k (dn k + 1)) Z K TB (stepF who h x).2.1 a' c' g' (told ++ (stepF who h x).2.2) ∧ KeepT w w' ∧ PB w' K TB who v2 (restF (stepF who h x).1 x r) := by
    intro F cap hF hcf hcall
    refine (run_fn s.tt k hk f F cap hF hd hd2 (fun v w2 => v = goOn (stepF who h x).1 (nx k) v' ∧ Done (w.setCell ⟨B, k * 2 + 1, none⟩ (.int .i64 (dn k + 1))) w2 Z K TB g (stepF who h x).2.1 (told ++ (stepF who h x).2.2)) hcf (hcall.mono ?_)).mono ?_
    · rintro e w2 ⟨rfl, hdn⟩
      obtain ⟨a', c', g', s2, k2, hp2⟩ := hfin _ w2 rfl hdn
      exact ⟨_, _, rfl, hp2.stepV, s2.tt, rfl, hdn⟩
    · rintro e w' ⟨v, z, w2, rfl, hz, t2, rfl, hve, hdn⟩
      obtain ⟨a', c', g', s2, k2, hp2⟩ := hfin v w2 hve hdn
      obtain ⟨s3, k3⟩ := s2.slot (t2.setN k v)
      have hzz : z = (restF (stepF who h x).1 x r).isEmpty := by
        have h1 := hp2.stepV
        revert hz h1
        generalize (restF (stepF who h x).1 x r).isEmpty = z2
        intro hz h1
        cases hz <;> cases h1 <;> rfl
      subst hzz
      exact ⟨v, a', c', g', rfl, s3, k2.trans k3, hp2.keep k3⟩
  rcases ha1 with ⟨hx, p1, p2, p3, p4, p5, e, h1, h2, h3, h4, h5⟩ | ⟨hx, p1, p2, p3, p4, e, h1, h2, h3, h4⟩ | ⟨hx, hx', p1, p2, p3, p4, e, h1, h2, h3, h4⟩
  · obtain ⟨x0, N⟩ := x
    simp only at hx h3
    subst hx
    exact key 29 _ e cf29 (lock_step s1.lw hwho hv f e h1 h2 h3 h4 h5)
  · obtain ⟨x0, N⟩ := x
    simp only at hx h3
    subst hx
    exact key 31 _ e cf31 (unlock_step s1.lw hwho hv f h1 h2 h3 h4)
  · exact key 27 _ e cf27 (tell_step s1.lw s1.zw hn x hx hx' hv f h1 h2 h3 h4)
end
end Go.Proofs.Ytjobdncikpnojaa
