/-
  What the listed table gives the walks; scripts of numbers out of their reading as an argument.
-/
import Derived.Test.YtcjlcbnjkkglbaaDoorRows
import Derived.Test.YtcjlcbnjkkglbaaDoorSeek
import Derived.Test.YtcjlcbnjkkglbaaDoorIntsI
import Derived.ProofKit
import Derived.LaidMore
import Derived.OpenShut
import Derived.Stop.Joined
namespace Go.Proofs.YtcjlcbnjkkglbaaDoor
open Go.ChangeShapes Go.WideShapes Go.ChangeAt Go.RowKit Go.Deep
def laidB : List (String × DataW Unit) := [("math/bits.deBruijn64tab", Rows.laid_math_bits_deBruijn64tab)]
theorem gTab : Tryd.prog.globalNamed "math/bits.deBruijn64tab" = some 0 := by kernel_rfl
theorem tTab : (Tryd.prog.globals[0]?).map (·.type) = some 57 := by kernel_rfl
theorem door_met (os : Os) (args : Array Value) : laidMetH Tryd.prog laidB ((World.doorLaid Tryd.prog 400 os).forCall (fun _ _ => 0) ⟨#[], args, []⟩).memory :=
  laidMetH_of_parts3 (fuel := 8) (laidMet_of_run' 8 (by kernel_rfl) (by kernel_rfl)) (by kernel_rfl) (by kernel_rfl)
theorem laid_get : ∀ j : Fin 64, ((match (Rows.laid_math_bits_deBruijn64tab : DataW Unit) with | .agg l => l | _ => [])[j.val]?) = some (.lit (.int .u8 (Lib.deBruijn64tab.getD j.val 0))) := by
  intro j
  unfold Rows.laid_math_bits_deBruijn64tab Lib.deBruijn64tab
  obtain ⟨j, hj⟩ := j
  rcases j with _ | _ | _ | _ | _ | _ | _ | _ | _ | _ | _ | _ | _ | _ | _ | _ | _ | _ | _ | _ | _ | _ | _ | _ | _ | _ | _ | _ | _ | _ | _ | _ | _ | _ | _ | _ | _ | _ | _ | _ | _ | _ | _ | _ | _ | _ | _ | _ | _ | _ | _ | _ | _ | _ | _ | _ | _ | _ | _ | _ | _ | _ | _ | _ | j
  all_goals first | rfl | (exfalso; omega)
theorem of_laid {W : World} (h : laidMetH Tryd.prog laidB W) : TabW W ∧ 0 < W.heap.size := by
  rw [MakeChecks.laidMetH_plain _ _ _ (by kernel_rfl)] at h
  obtain ⟨ps, ⟨g0, t0, cs0, f0, p0, q0, hg0, ht0, hv0, hd0, _, _⟩, _, _⟩ := h
  obtain rfl := Option.some.inj (gTab.symm.trans hg0)
  obtain rfl := Option.some.inj (tTab.symm.trans ht0)
  obtain ⟨xs, m1, rfl, hx1, hlen, hn, hel⟩ := DataW.trod_array Tryd.underlying57 hd0
  have c5 : Tryd.prog.cellsOf 5 = 1 := by kernel_rfl
  have hxs : (match (Rows.laid_math_bits_deBruijn64tab : DataW Unit) with | .agg l => l | _ => []) = xs.map (·.1) := by
    have := congrArg Prod.fst hx1
    simp only at this
    rw [this]
  have hT : TabW W := by
    intro j hj
    have hj' : j < 64 := hj
    have h1 := laid_get ⟨j, hj'⟩
    rw [hxs, List.getElem?_map] at h1
    obtain ⟨x, hx, hxe⟩ := Option.map_eq_some_iff.1 h1
    have h2 := hel j hj'
    rw [hx] at h2
    obtain ⟨k, e1, e2, _⟩ := DataW.trod_int Tryd.underlying5 h2
    rw [c5, Nat.mul_one] at e1
    have h3 := World.var?_cell hg0 hv0 j
    rw [h3, ← Array.getElem?_toList]
    have h4 : (cs0.toList.drop j)[0]? = some (.int .u8 k) := by
      cases hdr : cs0.toList.drop j with
      | nil => rw [hdr] at e1; simp at e1
      | cons c r => rw [hdr] at e1; simp at e1; rw [e1]; rfl
    rw [List.getElem?_drop, Nat.add_zero] at h4
    rw [h4]
    rw [e2] at hxe
    simp only at hxe
    injection hxe with h5
    injection h5 with _ h6
    rw [h6]
  refine ⟨hT, ?_⟩
  have := hT 0 (by decide)
  unfold World.cell? at this
  cases hh : W.heap[0]? with
  | none => simp [hh] at this
  | some o => exact (Array.getElem?_eq_some_iff.1 hh).1
theorem open_nums {H : Type} {enc : TypeId × Value → H} {W : World} {base : Nat} {spare : Nat → Bool} {held : Bool} {fuel : Nat} {v : Value} {x : DataW H × List MemPlace}
    (h : DataW.trod enc Tryd.prog W base spare held fuel 22 [v] = some x) :
    ∃ (a : Option Addr) (len cap b off : Nat) (V : Nat → Int), v = .slice a len cap ∧ len ≤ 9223372036854775807 ∧ IntsI W a len b off V :=
  open_intsI Tryd.underlying22 Tryd.underlying3 (by kernel_rfl) h
theorem open_ops {H : Type} {enc : TypeId × Value → H} {W : World} {base : Nat} {spare : Nat → Bool} {held : Bool} {fuel : Nat} {v : Value} {x : DataW H × List MemPlace}
    (h : DataW.trod enc Tryd.prog W base spare held fuel 34 [v] = some x) :
    ∃ (a : Option Addr) (len cap b off : Nat) (V : Nat → Nat → Int), v = .slice a len cap ∧ len ≤ 9223372036854775807 ∧ OpsI W a len b off 3 V :=
  open_opsI Tryd.underlying34 Tryd.underlying39 (by kernel_rfl) (by kernel_rfl) (by decide) (fun j hj => by
    rcases (show j = 0 ∨ j = 1 ∨ j = 2 by simp at hj; omega) with rfl | rfl | rfl <;> exact ⟨_, rfl, Tryd.underlying3⟩) h
end Go.Proofs.YtcjlcbnjkkglbaaDoor
