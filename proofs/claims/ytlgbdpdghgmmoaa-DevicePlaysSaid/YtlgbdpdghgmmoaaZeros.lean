/-
  'append(s, make([]T, n)...)', s the call's own: n zero elements behind its own. It speaks of no program.
-/
import Derived.WalkKit
namespace Go.Proofs.Ytlgbdpdghgmmoaa
section
variable {P : Program} (w : World)

theorem run_append_zeros (base : Nat) (t u ty e : TypeId) (k : IntKind) (i : TypeInfo) (z : Value) (bytes : Nat) (ht : P.underlying t = some (.slice e)) (hu : P.underlying u = some (.int k)) (hi : P.info? e = some i) (hz : i.zero = some z)
    (hsize : i.size = 1) (hby : i.bytes = bytes) (hzs : z.cells = #[z]) (h1 : z.oneCell' = true)
    (v : Value) (n : Nat) (xs : List Value) (hown : w.ownsRow base e 1 v n xs) (m : Nat) (q : IntKind) (hm : m ≤ 65536) (hn : n ≤ 65536) (hb : bytes ≤ 65536) (hbase : base ≤ w.heap.size) (hn0 : 0 < n + m) (hv : v ≠ .slice none 0 0) :
    ∃ v' w', (Builtin.append_ #[t, u] ty #[v, .int q (m : Int)]).run P w = .ok v' w' ∧ w'.ownsRow base e 1 v' (n + m) (xs ++ List.replicate m z) ∧ w.grownBy w' v.ownBlock := by
  subst hby
  have hwr : IntKind.i64.wrap (m : Int) = m := by rw [IntKind.wrap_i64]; omega
  have hneg : ¬ ((m : Int) < 0) := by omega
  have hmb : (m : Int) * (i.bytes : Int) ≤ 281474976710656 := by
    have : m * i.bytes ≤ 65536 * 65536 := Nat.mul_le_mul hm hb
    have h2 : ((m * i.bytes : Nat) : Int) ≤ 281474976710656 := by omega
    rwa [Int.natCast_mul] at h2
  have hbig : ¬ ((m : Int) * (i.bytes : Int) > 2 ^ 48) := by omega
  have hlen : (xs ++ List.replicate m z).length = (n + m) * 1 := by rw [List.length_append, hown.1, List.length_replicate]; omega
  have hzl : Builtin.zeroCells z.cells m = (List.replicate m z).toArray := by
    apply Array.ext'
    simp only [Builtin.zeroCells, hzs]
    simp [Array.toList_map, Array.toList_range, List.map_const', Nat.mod_one]
  rcases hown.2 with ⟨rfl, rfl⟩ | ⟨g, cap, cur, rfl, hbg, hg, hnc, hcm, hcs, htake⟩
  · exact absurd rfl hv
  · by_cases hroom : n + m ≤ cap
    · have hfit : n * i.size + (List.replicate m z).length ≤ cur.size := by rw [hcs, hsize, List.length_replicate]; omega
      have hst := run_storeCells_at P g n e (List.replicate m z) 0 cur w hg (by rw [hcs, List.length_replicate]; omega) (fun v hv => by rw [List.eq_of_mem_replicate hv]; exact h1)
      have hst' : (storeCells ⟨g, n, none⟩ (List.replicate m z) 0).run P w = .ok () (w.setRow g (cur.toList.take n ++ List.replicate m z ++ cur.toList.drop (n + m)).toArray) := by
        simpa using hst
      have hadd : (⟨g, 0, none⟩ : Addr).add (n * i.size) = ⟨g, n, none⟩ := by rw [hsize, Nat.mul_one]; unfold Addr.add; split <;> simp_all
      have hr : (Builtin.append_ #[t, u] ty #[.slice (some ⟨g, 0, none⟩) n cap, .int q (m : Int)]).run P w = .ok (.slice (some ⟨g, 0, none⟩) (n + m) cap) (w.setRow g (cur.toList.take n ++ List.replicate m z ++ cur.toList.drop (n + m)).toArray) := by
        by_cases hm0 : m = 0
        · subst hm0
          simp only [List.replicate_zero] at hst'
          simp [Builtin.append_, run_underlying ht, run_underlying hu, sizeOf, typeInfo, hi, asInt, asIntOf, hneg, hroom, hadd, hst', IntKind.wrap_i64]
          intro hh; exact absurd hh (by omega)
        · have hm1 : ¬ (m * i.size = 0) := by rw [hsize]; omega
          simp [Builtin.append_, run_underlying ht, run_underlying hu, sizeOf, typeInfo, zeroValue, hi, hz, asInt, asIntOf, hwr, hneg, hbig, hroom, hm1, hzl, hadd, hst']
          intro hh; exact absurd hh (by omega)
      refine ⟨_, _, hr, ⟨hlen, .inr ⟨g, cap, _, rfl, hbg, setRow_heap w g cur _ e _ hg, hroom, hcm, ?_, ?_⟩⟩, ⟨rfl, rfl, rfl, by simp, fun j _ hj => setRow_other w g j _ (fun e => hj (by simp [Value.ownBlock, e]))⟩⟩
      · simp only [List.size_toArray, List.length_append, List.length_take, List.length_drop, Array.length_toList, List.length_replicate]
        omega
      · rw [show cur.toList.take n = xs by simpa using htake, ← hlen]
        exact List.take_left
    · have holds : ∀ j u, xs[j]? = some u → w.drew.cell? ((⟨g, 0, none⟩ : Addr).add j) = some u := fun j u hj => by simpa using hown.cells (g := g) rfl j u hj
      have hl : xs.length = n * i.size := by rw [hown.1, hsize]
      have hfo := run_firstCells_some (P := P) w.drew i.size n ⟨g, 0, none⟩ n cap xs hl holds
      have hm0 : ¬ m = 0 := by omega
      have hm1 : ¬ (m * i.size = 0) := by rw [hsize]; omega
      have h63 : ¬ (9223372036854775807 < ((n : Int) + (m : Int))) := by omega
      have hbn : (n + m) * i.bytes ≤ 140737488355328 := by
        have : (n + m) * i.bytes ≤ 131072 * 65536 := Nat.mul_le_mul (by omega) hb
        omega
      have h48 : ¬ (281474976710656 < Builtin.nextslicecap (n + m) cap * i.bytes) := by have := growslice_fits (need := n + m) (old := cap) (by omega) hbn; omega
      have hr : (Builtin.append_ #[t, u] ty #[.slice (some ⟨g, 0, none⟩) n cap, .int q (m : Int)]).run P w =
          .ok (.slice (some ⟨w.heap.size, 0, none⟩) (n + m) (grownCap w (n + m) cap e)) (w.drew.alloc (.cells (xs.toArray ++ (List.replicate m z).toArray ++ Builtin.zeroCells z.cells (grownCap w (n + m) cap e - (n + m))) e)) := by
        simp [Builtin.append_, run_underlying ht, run_underlying hu, sizeOf, typeInfo, zeroValue, hi, hz, asInt, asIntOf, hwr, hneg, hbig, hroom, hm1, hzl, Question.forced, hfo, newRow, grownCap, h63, h48]
        intro hh; exact absurd hh (by omega)
      have hge := grownCap_ge w (n + m) cap e
      have hcm2 : grownCap w (n + m) cap e ≤ maxLen := grownCap_le_maxLen w (n + m) cap e (by simp only [maxLen]; omega)
      refine ⟨_, _, hr, ⟨hlen, .inr ⟨w.heap.size, _, _, rfl, hbase, heap_alloc_new w.drew _, hge, hcm2, ?_, ?_⟩⟩, ⟨rfl, rfl, rfl, by simp, fun j hj _ => Go.RowKit.Below.heap_alloc w.drew _ j hj⟩⟩
      · simp only [Array.size_append, List.size_toArray, size_zeroCells, hzs, hown.1, List.length_replicate]
        simp
        omega
      · simp only [Array.toList_append]
        rw [← hlen]
        exact List.take_left
/-- .. as a law at the operation. -/
theorem wpList_append_zeros {ops : Array Oper} {rest : List Oper} {o : Oper} {a : Act} {Q : Exit → Act → World → Prop} (hgd : o.guard = none) (s x : Operand) (t u : TypeId)
    (ho : o.op = .call { callee := .builtin .append, args := #[s, x], argTypes := #[t, u] })
    (base : Nat) (e : TypeId) (k : IntKind) (i : TypeInfo) (z : Value) (bytes : Nat) (ht : P.underlying t = some (.slice e)) (hu : P.underlying u = some (.int k)) (hi : P.info? e = some i) (hz : i.zero = some z)
    (hsize : i.size = 1) (hby : i.bytes = bytes) (hzs : z.cells = #[z]) (h1 : z.oneCell' = true)
    (v : Value) (n : Nat) (xs : List Value) (hs : a.eval s = v) (hown : w.ownsRow base e 1 v n xs) (m : Nat) (q : IntKind) (hx : a.eval x = .int q (m : Int)) (hm : m ≤ 65536) (hn : n ≤ 65536) (hb : bytes ≤ 65536) (hbase : base ≤ w.heap.size) (hn0 : 0 < n + m) (hv : v ≠ .slice none 0 0)
    (h : ∀ v' w', w'.ownsRow base e 1 v' (n + m) (xs ++ List.replicate m z) → w.grownBy w' v.ownBlock → wpList P ops Q rest (a.put o.dst v') w') : wpList P ops Q (o :: rest) a w := by
  obtain ⟨v', w', hr, h2, h3⟩ := run_append_zeros (P := P) w base t u o.type e k i z bytes ht hu hi hz hsize hby hzs h1 v n xs hown m q hm hn hb hbase hn0 hv
  refine wpList_plain hgd fun _ hK => ?_
  unfold Oper.wp execOp
  simp only [ho, resolve, invoke, builtin, Sem.run_bind, Sem.run_pure, Result.andThen_ok, List.map_toArray, List.map_cons, List.map_nil, hs, hx, hr]
  exact hK _ _ (h v' w' h2 h3)
end
end Go.Proofs.Ytlgbdpdghgmmoaa
