/- A list proves one answer alone; what Decide returns proves it. Plain lists; no condition. -/
import Derived.Test.YtfalhljidnpmgaaP0
set_option linter.unusedVariables false
set_option linter.unusedSimpArgs false
namespace Go.Proofs.Statute

theorem lastSays_mem : ∀ (l : List Fnd), l ≠ [] → ∃ x ∈ l, lastSays l = (x.says, x.holds)
  | [], h => absurd rfl h
  | [x], _ => ⟨x, by simp, rfl⟩
  | x :: y :: l, _ => by
    obtain ⟨z, hz, e⟩ := lastSays_mem (y :: l) (by simp)
    exact ⟨z, List.mem_cons_of_mem _ hz, e⟩
/-- A list proves no other answer than what is so. -/
theorem proves_one {j : Jd} (hj : j.Ok) {n : Int} {h : Bool} {l : List Fnd} (hp : j.proves n h l = true) : h = j.truth n := by
  unfold Jd.proves at hp
  simp only [Bool.and_eq_true, decide_eq_true_eq, beq_iff_eq] at hp
  obtain ⟨⟨⟨⟨ha, hr⟩, hne⟩, hs⟩, hh⟩ := hp
  obtain ⟨x, hx, e⟩ := lastSays_mem l hne
  rw [e] at hs hh
  dsimp only at hs hh
  have hin := (ascF_pair l (-1) ha).1 x hx
  obtain ⟨m, hm⟩ := Int.eq_ofNat_of_zero_le (show 0 ≤ x.says by omega)
  have := sound hj ha hr m x hx hm
  rw [← hh, this, ← hs, hm]
theorem proves_not {j : Jd} (hj : j.Ok) (n : Int) (l : List Fnd) : j.proves n (!j.truth n) l = false := by
  cases h : j.proves n (!j.truth n) l with
  | false => rfl
  | true =>
    have := proves_one hj h
    cases h2 : j.truth n <;> rw [h2] at this <;> exact absurd this (by simp)
/-- The finding of a number that is not below 0 names it. -/
theorem fd_says (j : Jd) (n : Int) : (j.fd n).says = n := by
  unfold Jd.fd Jd.find
  split
  · rfl
  · split <;> rfl
def up (j : Jd) (k : Nat) : List Fnd := (List.range k).map fun i : Nat => j.fd i
theorem finds_up {j : Jd} (hj : j.Ok) {k : Nat} (hk : k ≤ 20) {m : Int} (h0 : 0 ≤ m) (hm : m < k) : finds (up j k) m (j.truth m) = true := by
  obtain ⟨i, rfl⟩ := Int.eq_ofNat_of_zero_le h0
  rw [finds_iff]
  refine ⟨j.fd i, List.mem_map.2 ⟨i, List.mem_range.2 (by omega), rfl⟩, fd_says j i, ?_⟩
  rw [truth_fix hj (by omega) (by omega)]
theorem asc_up (j : Jd) : ∀ (n s : Nat) (last : Int), last < s → s + n ≤ 20 → ascF last ((List.range' s n).map fun i : Nat => j.fd i) = true
  | 0, s, last, _, _ => rfl
  | n + 1, s, last, h1, h2 => by
    rw [List.range'_succ, List.map_cons]
    simp only [ascF, fd_says, inB, Bool.and_eq_true, decide_eq_true_eq]
    exact ⟨by omega, asc_up j n (s + 1) s (by omega) (by omega)⟩
/-- Each finding is right in a list that has all below it. -/
theorem right_up {j : Jd} (hj : j.Ok) {k : Nat} (hk : k ≤ 20) {i : Nat} (hi : i < k) : j.right (up j k) (j.fd i) = true := by
  have hfin : ∀ m : Int, 0 ≤ m → m < i → finds (up j k) m (j.truth m) = true := fun m h0 hm => finds_up hj hk h0 (by omega)
  unfold Jd.fd Jd.find
  cases h1 : j.F.find? fun x => (fcAt j.c x).says == (i : Int) with
  | some f =>
    have hf := List.mem_of_find?_eq_some h1
    have hs := List.find?_some h1
    unfold Jd.right
    simp only [beq_self_eq_true, Bool.and_self, if_true, Int.toNat_natCast, Bool.and_eq_true]
    exact ⟨(hasN_iff _ _).2 ⟨f, hf, rfl⟩, by simpa using hs⟩
  | none =>
    dsimp only
    cases h2 : j.G.find? (j.gives j.truth i) with
    | some g =>
      have hg := List.mem_of_find?_eq_some h2
      have hgv := List.find?_some h2
      unfold Jd.gives at hgv
      simp only [Bool.and_eq_true, beq_iff_eq, Bool.not_eq_true'] at hgv
      obtain ⟨⟨e1, e2⟩, e3⟩ := hgv
      have hl := hj.less g hg
      have hne : ((g : Int) == -1) = false := by simp
      unfold Jd.right
      simp only [Bool.true_and, hne, if_true, Int.toNat_natCast, beq_self_eq_true, Bool.and_eq_true]
      rw [if_neg (by simp)]
      simp only [Bool.and_eq_true, List.all_eq_true, beq_iff_eq]
      refine ⟨⟨⟨(hasN_iff _ _).2 ⟨g, hg, rfl⟩, e1⟩, fun m hm => ?_⟩, fun m hm => ?_⟩
      · have := hl.2.1 m hm
        have ht := List.all_eq_true.1 e2 m hm
        have hff := hfin m this.1 (by omega)
        rw [ht] at hff
        exact hff
      · have := hl.2.2 m hm
        have ht : j.truth m = false := by
          cases h : j.truth m with
          | false => rfl
          | true =>
            have := List.any_eq_true.2 ⟨m, hm, h⟩
            rw [e3] at this
            exact absurd this (by simp)
        have hff := hfin m this.1 (by omega)
        rw [ht] at hff
        exact hff
    | none =>
      rw [List.find?_eq_none] at h1 h2
      unfold Jd.right
      simp only [Bool.false_and, if_false, Bool.false_eq_true, beq_self_eq_true, Bool.and_self, Bool.true_and, Bool.and_eq_true, Bool.not_eq_true']
      refine ⟨?_, ?_⟩
      · rw [Bool.eq_false_iff]
        intro h
        obtain ⟨x, hx, e⟩ := List.any_eq_true.1 h
        exact h1 x hx e
      · rw [Bool.eq_false_iff]
        intro h
        obtain ⟨x, hx, e⟩ := List.any_eq_true.1 h
        simp only [Bool.and_eq_true, Bool.not_eq_true'] at e
        have hl := hj.less x hx
        have hgi : (clAt j.c x).gives = i := by simpa using e.1
        apply h2 x hx
        unfold Jd.gives
        have e2 : (clAt j.c x).needs.all j.truth = true := by
          rw [List.all_eq_true]
          intro m hm
          cases h : j.truth m with
          | true => rfl
          | false =>
            have := hl.2.1 m hm
            have hf := hfin m this.1 (by omega)
            rw [h] at hf
            have hb : barred (up j k) (clAt j.c x) = true := by
              unfold barred
              rw [Bool.or_eq_true]
              exact .inl (List.any_eq_true.2 ⟨m, hm, hf⟩)
            rw [e.2] at hb
            exact absurd hb (by simp)
        have e3 : (clAt j.c x).bars.any j.truth = false := by
          rw [Bool.eq_false_iff]
          intro h
          obtain ⟨m, hm, ht⟩ := List.any_eq_true.1 h
          have := hl.2.2 m hm
          have hf := hfin m this.1 (by omega)
          rw [ht] at hf
          have hb : barred (up j k) (clAt j.c x) = true := by
            unfold barred
            rw [Bool.or_eq_true]
            exact .inr (List.any_eq_true.2 ⟨m, hm, hf⟩)
          rw [e.2] at hb
          exact absurd hb (by simp)
        rw [e2, e3, e.1]
        rfl
theorem lastSays_snoc : ∀ (l : List Fnd) (x : Fnd), lastSays (l ++ [x]) = (x.says, x.holds)
  | [], x => rfl
  | [y], x => rfl
  | y :: z :: l, x => lastSays_snoc (z :: l) x
theorem proves_up {j : Jd} (hj : j.Ok) {N : Nat} (hN : N ≤ 19) : j.proves N (j.truth N) (up j (N + 1)) = true := by
  unfold Jd.proves
  have e1 : ascF (-1) (up j (N + 1)) = true := by
    have := asc_up j (N + 1) 0 (-1) (by omega) (by omega)
    rwa [← List.range_eq_range'] at this
  have e2 : (up j (N + 1)).all (j.right (up j (N + 1))) = true := by
    rw [List.all_eq_true]
    intro x hx
    obtain ⟨i, hi, rfl⟩ := List.mem_map.1 hx
    exact right_up hj (by omega) (List.mem_range.1 hi)
  have e3 : up j (N + 1) = up j N ++ [j.fd N] := by unfold up; rw [List.range_succ, List.map_append]; rfl
  rw [e1, e2]
  rw [e3, lastSays_snoc]
  simp only [fd_says, ← truth_fix hj (show (0 : Int) ≤ N by omega) (by omega)]
  simp
theorem greedy_keeps (P : List Fnd → Bool) : ∀ (k : Nat) (l : List Fnd), P l = true → P (greedy P k l) = true
  | 0, l, h => h
  | k + 1, l, h => by
    unfold greedy
    apply greedy_keeps P k
    split
    · assumption
    · exact h
/-- What Decide returns proves its answer. -/
theorem proof_proves {j : Jd} (hj : j.Ok) {n : Int} (h0 : 0 ≤ n) (h1 : n ≤ 19) : j.proves n (j.truth n) (j.proof n) = true := by
  obtain ⟨N, rfl⟩ := Int.eq_ofNat_of_zero_le h0
  refine greedy_keeps _ _ _ ?_
  exact proves_up hj (by omega)
end Go.Proofs.Statute
