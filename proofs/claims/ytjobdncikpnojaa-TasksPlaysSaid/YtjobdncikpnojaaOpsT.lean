/-
  Calls with their acts, out of their reading as an argument; and the walk of tame.
-/
import Derived.Test.YtjobdncikpnojaaRows
import Derived.Test.YtjobdncikpnojaaActsX
import Derived.Test.YtjobdncikpnojaaGen
import Derived.ProofKit
import Derived.OpenShut
namespace Go.Proofs.Ytjobdncikpnojaa
open Go.ChangeShapes Go.WideShapes Go.ChangeAt Go.RowKit Go.Deep
/-- One call: its kind, its CPU, its acts. -/
structure Op1 where
  kd : Int
  cu : Int
  a : Option Addr
  c : Nat
  L : List (Int × Int)
instance : Inhabited Op1 := ⟨⟨0, 0, none, 0, []⟩⟩
structure OneT (w : World) (b o : Nat) (p : Op1) : Prop where
  c0 : w.cell? ⟨b, o, none⟩ = some (.int .i64 p.kd)
  c1 : w.cell? ⟨b, o + 1, none⟩ = some (.int .i64 p.cu)
  c2 : w.cell? ⟨b, o + 2, none⟩ = some (.slice p.a p.L.length p.c)
  le : p.L.length ≤ p.c ∧ p.c ≤ 9223372036854775807
  acts : ActsR w p.a p.L
  i64 : -9223372036854775808 ≤ p.cu ∧ p.cu ≤ 9223372036854775807
structure OpsT (w : World) (a : Option Addr) (len b off : Nat) (f : Nat → Op1) : Prop where
  at_ : 0 < len → a = some ⟨b, off, none⟩
  lt : 0 < len → b < w.heap.size
  one : ∀ i, i < len → OneT w b (off + i * 3) (f i)
theorem OneT.below {w w' : World} {b o : Nat} {p : Op1} (h : OneT w b o p) (k : Below w.heap.size w w') : OneT w' b o p := by
  have hb : b < w.heap.size := World.block_lt_of_cell? w _ h.c0
  exact ⟨(k.cell (p := ⟨b, o, none⟩) hb).trans h.c0, (k.cell (p := ⟨b, o + 1, none⟩) hb).trans h.c1, (k.cell (p := ⟨b, o + 2, none⟩) hb).trans h.c2, h.le, h.acts.below k, h.i64⟩
theorem OpsT.below {w w' : World} {a : Option Addr} {len b off : Nat} {f : Nat → Op1} (o : OpsT w a len b off f) (k : Below w.heap.size w w') : OpsT w' a len b off f :=
  ⟨o.at_, fun h => Nat.lt_of_lt_of_le (o.lt h) k.size, fun i hi => (o.one i hi).below k⟩
theorem open_acts {H : Type} {enc : TypeId × Value → H} {W : World} {base : Nat} {spare : Nat → Bool} {held : Bool} {fuel : Nat} {v : Value} {x : DataW H × List MemPlace}
    (h : DataW.trod enc Try.prog W base spare held fuel 44 [v] = some x) :
    ∃ (a : Option Addr) (cap : Nat) (L : List (Int × Int)), v = .slice a L.length cap ∧ L.length ≤ cap ∧ cap ≤ 9223372036854775807 ∧ ActsR W a L := by
  obtain ⟨a, len, cap, b, off, V, rfl, hl, hm, hat, hlt, hc⟩ := open_rows Try.underlying44 Try.underlying47 (by kernel_rfl) (by kernel_rfl) (by decide) h
  have key : ∀ i, i < len → ∃ p : Int × Int, W.cell? ⟨b, off + i * 2, none⟩ = some (.int .i64 p.1) ∧ W.cell? ⟨b, off + i * 2 + 1, none⟩ = some (.int .i64 p.2) := fun i hi => by
    obtain ⟨h0, n0, y0, t0⟩ := hc i hi 0 _ rfl
    obtain ⟨h1, n1, y1, t1⟩ := hc i hi 1 _ rfl
    obtain ⟨z0, hz0, _, _⟩ := DataW.trod_int Try.underlying3 t0
    obtain ⟨z1, hz1, _, _⟩ := DataW.trod_int Try.underlying3 t1
    rw [List.cons.injEq] at hz0 hz1
    rw [hz0.1] at h0
    rw [hz1.1] at h1
    exact ⟨(z0, z1), h0, h1⟩
  obtain ⟨f, hf⟩ := Go.Deep.choose_lt key
  have hL : ((List.range len).map f).length = len := by simp
  refine ⟨a, cap, (List.range len).map f, by rw [hL], by rw [hL]; exact hl, by unfold maxLen at hm; exact hm, ⟨fun h0 => ?_⟩⟩
  rw [hL] at h0
  refine ⟨b, off, hat h0, hlt h0, fun i p hp => ?_⟩
  rw [List.getElem?_map] at hp
  by_cases hi : i < len
  · rw [List.getElem?_range hi] at hp
    cases hp
    exact hf i hi
  · rw [List.getElem?_eq_none (by simp; omega)] at hp
    cases hp
theorem open_opsT {H : Type} {enc : TypeId × Value → H} {W : World} {base : Nat} {spare : Nat → Bool} {held : Bool} {fuel : Nat} {v : Value} {x : DataW H × List MemPlace}
    (h : DataW.trod enc Try.prog W base spare held fuel 54 [v] = some x) :
    ∃ (a : Option Addr) (len cap b off : Nat) (f : Nat → Op1), v = .slice a len cap ∧ len ≤ 9223372036854775807 ∧ OpsT W a len b off f := by
  obtain ⟨a, len, cap, b, off, V, rfl, hl, hm, hat, hlt, hc⟩ := open_rows Try.underlying54 Try.underlying59 (by kernel_rfl) (by kernel_rfl) (by decide) h
  have key : ∀ i, i < len → ∃ p : Op1, OneT W b (off + i * 3) p := fun i hi => by
    obtain ⟨h0, n0, y0, t0⟩ := hc i hi 0 _ rfl
    obtain ⟨h1, n1, y1, t1⟩ := hc i hi 1 _ rfl
    obtain ⟨h2, n2, y2, t2⟩ := hc i hi 2 _ rfl
    obtain ⟨z0, hz0, _, _⟩ := DataW.trod_int Try.underlying3 t0
    obtain ⟨z1, hz1, _, w1⟩ := DataW.trod_int Try.underlying3 t1
    obtain ⟨a2, c2, L2, hz2, hb2, hl2, hr⟩ := open_acts t2
    rw [List.cons.injEq] at hz0 hz1
    rw [hz0.1] at h0
    rw [hz1.1] at h1
    rw [hz2] at h2
    exact ⟨⟨z0, z1, a2, c2, L2⟩, h0, h1, h2, ⟨hb2, hl2⟩, hr, bounds_i64 w1⟩
  obtain ⟨f, hf⟩ := Go.Deep.choose_lt key
  exact ⟨a, len, cap, b, off, f, rfl, by unfold maxLen at hm; omega, hat, hlt, hf⟩
/-- What is looked at. -/
def tameL (L : List (Int × Int)) : Prop := L.length ≤ 30 ∧ ∀ (k : Nat) (x : Int × Int), L[k]? = some x → 0 ≤ x.2 ∧ x.2 ≤ 7
/-- How tame answers. -/
def TameP (w : World) (len : Nat) (f : Nat → Op1) (e : Ending) (w' : World) : Prop := ∃ z, e = .returned (.bool z) ∧ Below w.heap.size w w' ∧ (z = true → len ≤ 400 ∧ ∀ i, i < len → tameL (f i).L)
set_option maxHeartbeats 2000000 in
theorem tame_any {w : World} {a : Option Addr} {len cap b off : Nat} {f : Nat → Op1} (o : OpsT w a len b off f) (hlen : len ≤ 9223372036854775807) :
    Calls Try.prog 17 #[.slice a len cap] w (TameP w len f) := by
  by_cases h400 : 400 < len
  · have d1 : decide ((400 : Int) < (len : Int)) = true := by simp; omega
    have d2 : decide (400 < len) = true := by simp; omega
    go_enter Try.func17, Try.ntmps17
    go_wp2_with fail
    go_ret
    exact ⟨_, rfl, Below.refl _ _, fun h => by cases h⟩
  have d1 : decide ((400 : Int) < (len : Int)) = false := by simp; omega
  have d2 : decide (400 < len) = false := by simp; omega
  have hl : len ≤ 400 := by omega
  clear h400
  go_enter Try.func17, Try.ntmps17
  go_wp2_with fail
  go_loopw [11] (fun v wr => ∃ i : Nat, i ≤ len ∧ v = .int .i64 i ∧ Below w.heap.size w wr ∧ ∀ j, j < i → tameL (f j).L) (fun v _ => len - (intOf v).toNat)
  case atStart => exact ⟨0, Nat.zero_le _, rfl, Below.refl _ _, fun j hj => absurd hj (Nat.not_lt_zero j)⟩
  case round =>
    obtain ⟨i, hi, rfl, bl, ht⟩ := hrel
    have HT := Lib.hid ht
    clear ht
    by_cases hlt : i < len
    · have oi := (o.below bl).one i hlt
      obtain ⟨c0, c1, c2, hle, hac, hcu⟩ := oi
      obtain rfl := o.at_ (by omega)
      obtain ⟨L, hL⟩ : ∃ L, L = (f i).L := ⟨_, rfl⟩
      rw [← hL] at c2 hac hle
      obtain ⟨n, hn⟩ : ∃ n, n = L.length := ⟨_, rfl⟩
      rw [← hn] at c2 hle
      have HL := Lib.hid hL
      have HN := Lib.hid hn
      clear hL hn c0 c1
      by_cases h30 : 30 < n
      · have e1 : decide ((30 : Int) < (n : Int)) = true := by simp; omega
        have e2 : decide (30 < n) = true := by simp; omega
        go_wp2_with fail
        go_ret
        exact ⟨_, rfl, bl, fun h => by cases h⟩
      · have e1 : decide ((30 : Int) < (n : Int)) = false := by simp; omega
        have e2 : decide (30 < n) = false := by simp; omega
        have hn30 : n ≤ 30 := by omega
        obtain ⟨wx, rfl⟩ : ∃ wx, wx = wr := ⟨_, rfl⟩
        go_wp2_with fail
        go_loopw [27] (fun v wr => ∃ k : Nat, k ≤ n ∧ v = .int .i64 k ∧ Below wx.heap.size wx wr ∧ ∀ j x, j < k → L[j]? = some x → 0 ≤ x.2 ∧ x.2 ≤ 7) (fun v _ => n - (intOf v).toNat)
        case atStart => exact ⟨0, Nat.zero_le _, rfl, Below.refl _ _, fun j x hj => absurd hj (Nat.not_lt_zero j)⟩
        case round =>
          obtain ⟨k, hk, rfl, b2, hx⟩ := hrel
          by_cases hkn : k < n
          · obtain ⟨x, hxk⟩ : ∃ x, L[k]? = some x := ⟨_, List.getElem?_eq_getElem (by rw [← HN.out]; exact hkn)⟩
            obtain ⟨bb, oo, hA, hbb, hcc⟩ := (hac.below b2).at_ (by rw [← HN.out]; omega)
            obtain ⟨q0, q1⟩ := hcc k x hxk
            rw [hA]
            clear hcc hA hbb
            obtain ⟨x0, x1⟩ := x
            simp only at q0 q1
            have HX := Lib.hid hx
            have HXK := Lib.hid hxk
            have B3 := Lib.hid (below_then b2 (below_new wr (.cells #[.int .i64 x0, .int .i64 x1] 47)))
            have BL := Lib.hid bl
            clear hx hxk b2 bl c2
            by_cases h0 : x1 < 0
            · have f1 : decide (x1 < 0) = true := by simp; exact h0
              go_wp2_with fail
              go_ret
              exact ⟨_, rfl, below_then BL.out B3.out, fun h => by cases h⟩
            · have f1 : decide (x1 < 0) = false := by simp; omega
              by_cases h7 : 7 < x1
              · have f2 : decide (7 < x1) = true := by simp; exact h7
                go_wp2_with fail
                go_ret
                exact ⟨_, rfl, below_then BL.out B3.out, fun h => by cases h⟩
              · have f2 : decide (7 < x1) = false := by simp; omega
                go_wp2_with fail
                go_roundw
                case rel =>
                  refine ⟨k + 1, by omega, by go_num, B3.out, fun j x hj hxj => ?_⟩
                  by_cases hjk : j = k
                  · subst hjk
                    rw [HXK.out] at hxj
                    cases hxj
                    exact ⟨by omega, by omega⟩
                  · exact HX.out j x (by omega) hxj
                case measure => simp [intOf]; omega
          · have hkn2 : k = n := by omega
            have HTL := Lib.hid (show tameL (f i).L from ⟨by rw [← HL.out, ← HN.out]; exact hn30, fun j x hj => hx j x (by
              have := (List.getElem?_eq_some_iff.1 hj).1
              rw [← HL.out, ← HN.out] at this
              omega) (by rw [HL.out]; exact hj)⟩)
            have BL := Lib.hid (below_then bl b2)
            clear hx bl b2 hkn2
            go_wp2_with fail
            go_roundw
            case rel =>
              refine ⟨i + 1, by omega, by go_num, BL.out, fun j hj => ?_⟩
              by_cases hji : j = i
              · subst hji; exact HTL.out
              · exact HT.out j (by omega)
            case measure => simp [intOf]; omega
    · have hil : i = len := by omega
      go_wp2_with fail
      go_ret
      exact ⟨_, rfl, bl, fun _ => ⟨hl, fun j hj => HT.out j (by omega)⟩⟩
end Go.Proofs.Ytjobdncikpnojaa
