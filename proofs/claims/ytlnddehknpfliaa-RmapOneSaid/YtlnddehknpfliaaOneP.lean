/-
  The plain law of RmapOne: what Of tells of all processes is what Get tells of all frames.
-/
import Derived.Test.YtlnddehknpfliaaIter
namespace Go.Proofs.Ytlnddehknpfliaa

/-- How many of the first i frames are a page's. -/
def cntF (f : Fr) (i : Nat) : Nat := ((List.range i).filter fun k => (f k).1 != 0).length
theorem cntF_succ (f : Fr) (i : Nat) : cntF f (i + 1) = cntF f i + if (f i).1 = 0 then 0 else 1 := by
  unfold cntF
  rw [List.range_succ, List.filter_append, List.length_append]
  by_cases h : (f i).1 = 0 <;> simp [h]
/-- .. a process'. -/
def cntP (f : Fr) (n : Nat) (pid : Int) : Nat := ((List.range n).filter fun k => (f k).1 == pid).length
theorem ofL_mem {n : Nat} {f : Fr} {pid : Int} {m p k : Nat} (h : (p, k) ∈ ofL n f pid m) : p < m ∧ k < n ∧ f k = (pid, (p : Int)) ∧ pid ≠ 0 := by
  unfold ofL at h
  rw [List.mem_filterMap] at h
  obtain ⟨q, hq, he⟩ := h
  rw [Option.map_eq_some_iff] at he
  obtain ⟨j, hj, e⟩ := he
  cases e
  obtain ⟨h1, h2, h3⟩ := findO_some hj
  exact ⟨by simpa using hq, h1, h2, h3⟩
theorem mem_ofL {n : Nat} {f : Fr} {pid : Int} (o : OkF n f) (h0 : pid ≠ 0) {k : Nat} (hk : k < n) (hf : (f k).1 = pid) : ∃ p, (p, k) ∈ ofL n f pid 1024 := by
  have hm : mayB (f k) = true := by
    rcases o.may k hk with h | h
    · rw [h] at hf; exact absurd hf.symm h0
    · exact h
  have h4 := mayB_true hm
  obtain ⟨p, hp⟩ := Int.eq_ofNat_of_zero_le h4.2.2.1
  refine ⟨p, ?_⟩
  unfold ofL
  rw [List.mem_filterMap]
  refine ⟨p, by simp; omega, ?_⟩
  have hfk : f k = (pid, (p : Int)) := by rw [← hf, ← hp]
  have := findO_at o hk (by rw [hf]; exact h0)
  rw [hfk] at this
  rw [this]; rfl
theorem ofL_snd_nodup {n : Nat} {f : Fr} {pid : Int} (m : Nat) : ((ofL n f pid m).map Prod.snd).Nodup := by
  induction m with
  | zero => simp [ofL]
  | succ m ih =>
    rw [ofL_succ]
    cases h : findO n f (pid, (m : Int)) with
    | none => simpa using ih
    | some k =>
      rw [List.map_append, List.nodup_append]
      refine ⟨ih, by simp, ?_⟩
      rintro a ha b hb rfl
      simp at hb
      subst hb
      rw [List.mem_map] at ha
      obtain ⟨⟨p, j⟩, hx, rfl⟩ := ha
      obtain ⟨h1, _, h3, _⟩ := ofL_mem hx
      obtain ⟨_, h5, _⟩ := findO_some h
      rw [h3] at h5
      have := congrArg Prod.snd h5
      simp only at this
      omega
theorem ofL_len {n : Nat} {f : Fr} {pid : Int} (o : OkF n f) (h0 : pid ≠ 0) : (ofL n f pid 1024).length = cntP f n pid := by
  have hp : ((ofL n f pid 1024).map Prod.snd).Perm ((List.range n).filter fun k => (f k).1 == pid) := by
    rw [List.perm_ext_iff_of_nodup (ofL_snd_nodup 1024) (List.nodup_range.sublist List.filter_sublist)]
    intro k
    rw [List.mem_map, List.mem_filter, List.mem_range, beq_iff_eq]
    constructor
    · rintro ⟨⟨p, j⟩, hx, rfl⟩
      obtain ⟨_, h2, h3, _⟩ := ofL_mem hx
      exact ⟨h2, by rw [h3]⟩
    · rintro ⟨hk, hf⟩
      obtain ⟨p, hx⟩ := mem_ofL o h0 hk hf
      exact ⟨(p, k), hx, rfl⟩
  have := hp.length_eq
  rw [List.length_map] at this
  exact this
/-- The pages of the processes ahead of pid. -/
def sumP (f : Fr) (n : Nat) : Nat → Nat
  | 0 => 0
  | p + 1 => sumP f n p + cntP f n ((p : Int) + 1)
theorem cntP_succ (f : Fr) (n : Nat) (pid : Int) : cntP f (n + 1) pid = cntP f n pid + if (f n).1 = pid then 1 else 0 := by
  unfold cntP
  rw [List.range_succ, List.filter_append, List.length_append]
  by_cases h : (f n).1 = pid <;> simp [h]
theorem sumP_succ (f : Fr) (n : Nat) : ∀ p : Nat, sumP f (n + 1) p = sumP f n p + if 1 ≤ (f n).1 ∧ (f n).1 ≤ p then 1 else 0
  | 0 => by unfold sumP; rw [if_neg (by omega)]
  | p + 1 => by
    unfold sumP
    rw [sumP_succ f n p, cntP_succ]
    by_cases h1 : 1 ≤ (f n).1 ∧ (f n).1 ≤ p
    · rw [if_pos h1, if_neg (by omega), if_pos (by omega)]; omega
    · by_cases h2 : (f n).1 = (p : Int) + 1
      · rw [if_neg h1, if_pos h2, if_pos (by omega)]; omega
      · rw [if_neg h1, if_neg h2, if_neg (by omega)]; omega
theorem sum_all {f : Fr} : ∀ {n : Nat}, (∀ k, k < n → f k = (0, 0) ∨ mayB (f k) = true) → sumP f n 8 = cntF f n
  | 0, _ => by simp [sumP, cntP, cntF]
  | n + 1, h => by
    rw [sumP_succ, sum_all (fun k hk => h k (by omega)), cntF_succ]
    rcases h n (by omega) with h1 | h1
    · rw [if_neg (by rw [h1]; simp), if_pos (by rw [h1])]
    · have := mayB_true h1
      rw [if_pos (by omega), if_neg (by omega)]
theorem ofL_sorted {n : Nat} {f : Fr} {pid : Int} (m : Nat) : (ofL n f pid m).Pairwise fun a b => a.1 < b.1 := by
  induction m with
  | zero => simp [ofL]
  | succ m ih =>
    rw [ofL_succ]
    cases h : findO n f (pid, (m : Int)) with
    | none => simpa using ih
    | some k =>
      rw [List.pairwise_append]
      refine ⟨ih, List.pairwise_singleton _ _, ?_⟩
      rintro ⟨p, j⟩ ha b hb
      obtain rfl := List.mem_singleton.1 hb
      exact (ofL_mem ha).1
/-- The last page that was told; -1: none. -/
def lastP (pre : List (Nat × Nat)) : Int := match pre.getLast? with | some y => (y.1 : Int) | none => -1
theorem lastP_nil : lastP [] = -1 := rfl
theorem lastP_snoc (pre : List (Nat × Nat)) (x : Nat × Nat) : lastP (pre ++ [x]) = (x.1 : Int) := by unfold lastP; rw [List.getLast?_concat]
theorem lastP_lt {n : Nat} {f : Fr} {pid : Int} {m : Nat} {pre : List (Nat × Nat)} {x : Nat × Nat} (h : pre ++ [x] <+: ofL n f pid m) : lastP pre < (x.1 : Int) := by
  have hs := (ofL_sorted (n := n) (f := f) (pid := pid) m).sublist h.sublist
  rw [List.pairwise_append] at hs
  unfold lastP
  split
  · rename_i y hy
    have := hs.2.2 y (List.mem_of_getLast? hy) x (List.mem_singleton_self _)
    omega
  · omega
/-- What is told next is what Get tells. -/
theorem ofL_next {n : Nat} {f : Fr} {pid : Int} {m : Nat} {pre : List (Nat × Nat)} {x : Nat × Nat} (h : pre ++ [x] <+: ofL n f pid m) : x.2 < n ∧ f x.2 = (pid, (x.1 : Int)) ∧ pid ≠ 0 ∧ lastP pre < (x.1 : Int) := by
  have hx : (x.1, x.2) ∈ ofL n f pid m := h.subset (List.mem_append_right _ (List.mem_singleton_self _))
  obtain ⟨_, h2, h3, h4⟩ := ofL_mem hx
  exact ⟨h2, h3, h4, lastP_lt h⟩
end Go.Proofs.Ytlnddehknpfliaa
