/-
  For every n and every script of calls the law LocksCircle returns true, and its arguments read as before. No condition.
-/
import Derived.Test.YteafbkgaihjieaaOps
import Derived.ProofKit
import Derived.OpenShut
import Derived.ChangeOld
namespace Go.Proofs.Yteafbkgaihjieaa.locksCircle
open Go.ChangeShapes Go.WideShapes Go.ChangeAt Go.RowKit
set_option linter.unusedVariables false

theorem own : ownKnob Try.prog.godebug = none := by kernel_rfl
theorem laidOut : laidOutB Try.prog = true := by kernel_rfl

/-- A script, out of its reading. -/
theorem open_ops {H : Type} {enc : TypeId × Value → H} {W : World} {base : Nat} {spare : Nat → Bool} {held : Bool} {fuel : Nat} {v : Value} {x : DataW H × List MemPlace}
    (h : DataW.trod enc Try.prog W base spare held fuel 22 [v] = some x) :
    ∃ (a : Option Addr) (len cap b off : Nat) (K Wh L : Nat → Int), v = .slice a len cap ∧ len ≤ 9223372036854775807 ∧ OpsAt W a len b off K Wh L := by
  obtain ⟨a, len, cap, b, off, V, rfl, hl, hm, hat, hlt, hc⟩ := open_rows Try.underlying22 Try.underlying27 (by kernel_rfl) (by kernel_rfl) (by decide) h
  have key : ∀ (j : Nat) (f : Field) (hf : (#[{ name := "Kind", type := 3, offset := 0, embedded := false, tag := "", pkgPath := "", byteOffset := 0 },
        { name := "Who", type := 3, offset := 1, embedded := false, tag := "", pkgPath := "", byteOffset := 8 },
        { name := "Lock", type := 3, offset := 2, embedded := false, tag := "", pkgPath := "", byteOffset := 16 }] : Array Field)[j]? = some f) (h3 : f.type = 3),
      ∀ i, i < len → ∃ z : Int, W.cell? ⟨b, off + (i * 3 + j), none⟩ = some (.int .i64 z) ∧ (Lit.int .i64 z).wf = true := fun j f hf h3 i hi => by
    obtain ⟨hcell, n, y, hy⟩ := hc i hi j f hf
    rw [h3] at hy
    obtain ⟨z, hz, _, hw⟩ := DataW.trod_int Try.underlying3 hy
    rw [List.cons.injEq] at hz
    exact ⟨z, by rw [← hz.1]; exact hcell, hw⟩
  obtain ⟨K, hK⟩ := Go.Deep.choose_lt (key 0 _ rfl rfl)
  obtain ⟨Wh, hW⟩ := Go.Deep.choose_lt (key 1 _ rfl rfl)
  obtain ⟨L, hL⟩ := Go.Deep.choose_lt (key 2 _ rfl rfl)
  exact ⟨a, len, cap, b, off, K, Wh, L, rfl, by unfold maxLen at hm; omega,
    { at_ := hat, lt := hlt, ck := fun i hi => (hK i hi).1, cw := fun i hi => (hW i hi).1, cl := fun i hi => (hL i hi).1, wle := fun i hi => (bounds_i64 (hW i hi).2).2 }⟩

set_option maxRecDepth 100000 in
theorem lifted (os : Os) (started : os.Started) (H : Type) (enc : TypeId × Value → H) :
    ReturnsInHanded {} Try.checked os 3 .any (Rows.locksCircleSpec.pre6 enc Try.prog Try.f3 Rows.locksCircleRow.domain false) (Rows.locksCircleSpec.post enc Try.prog Try.f3 false true false false) := by
  refine returnsInHanded_of_change (C := Try.checked) own started (by kernel_rfl) Try.func3
    (ChangeSpec.witness6 (enc := enc) (C := Try.checked) false ⟨#[], #[.int .i64 0, .slice none 0 0], []⟩ 8 (by kernel_rfl) (by kernel_rfl) (by kernel_rfl) (by kernel_rfl)) ?_
  intro W base args ds gs before hval0 hW hcnd _
  have hval : ∀ (j : Nat) t v, Try.f3.params[j]? = some t → args[j]? = some v → Value.okWide Try.prog W .any base t v := hval0
  have hW' := hW
  obtain ⟨p, q, hA0, hV, rfl, hfz, hnd⟩ := hW
  have hA : DataW.TrodAll enc Try.prog W 0 (fun _ => true) true Try.f3.params.toList args.toList ds p := hA0
  rw [Try.params3] at hA hval
  obtain ⟨v0, vs0, d0, ds0, p0, q0, hargs, rfl, rfl, h0, r0⟩ := trodAll_cons hA
  obtain ⟨v1, vs1, d1, ds1, p1, q1, rfl, rfl, rfl, h1, r1⟩ := trodAll_cons r0
  obtain ⟨rfl, rfl, rfl⟩ := trodAll_nil r1
  obtain rfl : args = #[v0, v1] := by cases args; simp_all
  obtain ⟨rfl, rfl⟩ := trodVars_none hV
  have k0 := h0
  have lt0 : ∀ x ∈ p0, x.block < W.heap.size := by obtain ⟨m, hm⟩ := k0; exact DataW.trod_lt m _ _ _ hm
  have k1 := h1
  have lt1 : ∀ x ∈ p1, x.block < W.heap.size := by obtain ⟨m, hm⟩ := k1; exact DataW.trod_lt m _ _ _ hm
  obtain ⟨a0, rfl, rfl, rfl, w0⟩ := open_int Try.underlying3 (hval 0 3 v0 rfl rfl) h0
  obtain ⟨a1, len1, cap1, rfl⟩ := okWide_slice Try.underlying22 (hval 1 22 v1 rfl rfl)
  obtain ⟨a, len, cap, b, off, K, Wh, L, he, hlen, ho⟩ : ∃ (a : Option Addr) (len cap b off : Nat) (K Wh L : Nat → Int), Value.slice a1 len1 cap1 = .slice a len cap ∧ len ≤ 9223372036854775807 ∧ OpsAt W a len b off K Wh L := by
    obtain ⟨fuel, hf⟩ := h1
    exact open_ops hf
  obtain ⟨rfl, rfl, rfl⟩ := Value.slice.inj he
  clear hA0 hval0
  refine (circle_any a0 a1 len1 cap1 b off K Wh L W ho hlen).mono fun e W' ⟨he, bel⟩ => ?_
  subst he
  exact ⟨_, rfl, _, _, _, [], _, [], hW', trodAll_mk1 (shut_bool Try.underlying4 _), (trodAll_cons_mk (Below.trod laidOut (by kernel_rfl) (of_decide_eq_true (by kernel_rfl)) k0 bel lt0) (trodAll_cons_mk (Below.trod laidOut (by kernel_rfl) (of_decide_eq_true (by kernel_rfl)) k1 bel lt1) trodAll_mk0)), rfl, bel.frame _, fun h => by cases h⟩

theorem over : Rows.locksCircleRow.holds Try.pinned (OpenSpec.ofChange Rows.locksCircleSpec) :=
  OpenClaim.holds_of_wide 3 Try.f3 rfl rfl rfl rfl rfl rfl rfl ⟨rfl, rfl, rfl, rfl, rfl⟩ rfl rfl rfl rfl rfl (by kernel_rfl) Try.func3 (by kernel_rfl)
    (of_decide_eq_true (by kernel_rfl)) (by unfold Func.isWrapper; first | (rw [if_pos (by decide +kernel)]; kernel_rfl) | (rw [if_neg (by decide +kernel)]; exact ⟨rfl, rfl⟩))
    (fun os started H enc _ => lifted os started H enc)

/-- The statement. -/
theorem proved : Rows.LocksCircleSaid := over
#print axioms proved
end Go.Proofs.Yteafbkgaihjieaa.locksCircle
