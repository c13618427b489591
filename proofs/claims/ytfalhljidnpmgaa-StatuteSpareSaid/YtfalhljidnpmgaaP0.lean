/- What a right list says is true; the list of all findings is right. Plain lists; no condition. -/
import Derived.Test.YtfalhljidnpmgaaA0
set_option linter.unusedVariables false
set_option linter.unusedSimpArgs false
namespace Go.Proofs.Statute

theorem ascF_pair : ∀ (l : List Fnd) (last : Int), ascF last l = true → (∀ x ∈ l, last < x.says ∧ x.says ≤ 19) ∧ l.Pairwise (fun x y => x.says < y.says)
  | [], _, _ => by simp
  | x :: l, last, h => by
    simp only [ascF, inB, Bool.and_eq_true, decide_eq_true_eq] at h
    have ih := ascF_pair l x.says h.2
    refine ⟨fun y hy => ?_, List.pairwise_cons.2 ⟨fun y hy => (ih.1 y hy).1, ih.2⟩⟩
    rcases List.mem_cons.1 hy with rfl | hy
    · omega
    · have := ih.1 y hy
      omega
theorem finds_iff (l : List Fnd) (n : Int) (h : Bool) : finds l n h = true ↔ ∃ y ∈ l, y.says = n ∧ y.holds = h := by
  unfold finds
  rw [List.any_eq_true]
  constructor
  · rintro ⟨y, hy, e⟩
    simp only [Bool.and_eq_true, beq_iff_eq] at e
    exact ⟨y, hy, e.1, e.2⟩
  · rintro ⟨y, hy, e1, e2⟩
    exact ⟨y, hy, by simp [e1, e2]⟩
theorem hasN_iff (l : List Nat) (z : Int) : hasN l z = true ↔ ∃ i ∈ l, (i : Int) = z := by
  unfold hasN
  rw [List.any_eq_true]
  constructor
  · rintro ⟨y, hy, e⟩
    exact ⟨y, hy, by simpa using e⟩
  · rintro ⟨y, hy, e⟩
    exact ⟨y, hy, by simpa using e⟩
/-- What holds by a fact. -/
theorem fd_fact (j : Jd) (n : Int) {i : Nat} (hi : i ∈ j.F) (hs : (fcAt j.c i).says = n) : (j.fd n).holds = true := by
  unfold Jd.fd Jd.find
  cases h : j.F.find? fun i => (fcAt j.c i).says == n with
  | some k => rfl
  | none =>
    rw [List.find?_eq_none] at h
    exact absurd (by simpa using hs) (h i hi)
/-- What holds by a clause. -/
theorem fd_clause (j : Jd) (n : Int) {i : Nat} (hi : i ∈ j.G) (hs : j.gives j.truth n i = true) : (j.fd n).holds = true := by
  unfold Jd.fd Jd.find
  cases h : j.F.find? fun i => (fcAt j.c i).says == n with
  | some k => rfl
  | none =>
    dsimp only
    cases h2 : j.G.find? (j.gives j.truth n) with
    | some k => rfl
    | none =>
      rw [List.find?_eq_none] at h2
      exact absurd hs (h2 i hi)
theorem fd_none (j : Jd) (n : Int) (h1 : ∀ i ∈ j.F, (fcAt j.c i).says ≠ n) (h2 : ∀ i ∈ j.G, j.gives j.truth n i = false) : (j.fd n).holds = false := by
  unfold Jd.fd Jd.find
  have e1 : (j.F.find? fun i => (fcAt j.c i).says == n) = none := by
    rw [List.find?_eq_none]
    intro i hi
    simpa using h1 i hi
  have e2 : j.G.find? (j.gives j.truth n) = none := by
    rw [List.find?_eq_none]
    intro i hi
    rw [h2 i hi]
    simp
  rw [e1, e2]
/-- A list that is right says what is so. -/
theorem sound {j : Jd} (hj : j.Ok) {l : List Fnd} (ha : ascF (-1) l = true) (hr : l.all (j.right l) = true) : ∀ (m : Nat) (x : Fnd), x ∈ l → x.says = m → x.holds = j.truth m := by
  obtain ⟨hin, _⟩ := ascF_pair l (-1) ha
  rw [List.all_eq_true] at hr
  intro m
  induction m using Nat.strongRecOn with
  | ind m ih =>
    intro x hx hs
    have h19 := hin x hx
    rw [truth_fix hj (by omega) (by omega)]
    have hfind : ∀ (k : Int) (h : Bool), 0 ≤ k → k < m → finds l k h = true → j.truth k = h := fun k h h0 hk hf => by
      obtain ⟨y, hy, e1, e2⟩ := (finds_iff l k h).1 hf
      obtain ⟨k', rfl⟩ := Int.eq_ofNat_of_zero_le h0
      rw [← ih k' (by omega) y hy e1, e2]
    have hx2 := hr x hx
    unfold Jd.right at hx2
    split at hx2
    · rename_i hc
      simp only [Bool.and_eq_true, beq_iff_eq] at hc hx2
      obtain ⟨i, hi, hie⟩ := (hasN_iff _ _).1 hx2.1
      rw [hc.1]
      have e2 := hx2.2
      rw [← hie, Int.toNat_natCast] at e2
      exact (fd_fact j m hi (by rw [e2, hs])).symm
    · split at hx2
      · rename_i hc
        simp only [Bool.and_eq_true, beq_iff_eq, List.all_eq_true] at hx2
        obtain ⟨i, hi, hie⟩ := (hasN_iff _ _).1 hx2.1.1.1.2
        rw [← hie, Int.toNat_natCast] at hx2
        obtain ⟨⟨⟨⟨_, _⟩, hg⟩, hn⟩, hb⟩ := hx2
        have hl := hj.less i hi
        rw [hc]
        refine (fd_clause j m hi ?_).symm
        unfold Jd.gives
        have e1 : (clAt j.c i).needs.all j.truth = true := by
          rw [List.all_eq_true]
          intro k hk
          have := hl.2.1 k hk
          exact hfind k true this.1 (by omega) (hn k hk)
        have e2 : (clAt j.c i).bars.any j.truth = false := by
          rw [Bool.eq_false_iff]
          intro h
          obtain ⟨k, hk, e⟩ := List.any_eq_true.1 h
          have := hl.2.2 k hk
          rw [hfind k false this.1 (by omega) (hb k hk)] at e
          exact absurd e (by simp)
        rw [e1, e2]
        simp [hg, hs]
      · rename_i hc
        have hc2 : x.holds = false := by simpa using hc
        simp only [Bool.and_eq_true, beq_iff_eq, Bool.not_eq_true'] at hx2
        obtain ⟨⟨_, hf⟩, hg⟩ := hx2
        rw [hc2]
        refine (fd_none j m (fun i hi e => ?_) (fun i hi => ?_)).symm
        · have : (j.F.any fun i => (fcAt j.c i).says == x.says) = true := List.any_eq_true.2 ⟨i, hi, by rw [hs]; simpa using e⟩
          rw [hf] at this
          exact absurd this (by simp)
        · cases hv : j.gives j.truth m i with
          | false => rfl
          | true =>
            unfold Jd.gives at hv
            simp only [Bool.and_eq_true, beq_iff_eq, Bool.not_eq_true'] at hv
            obtain ⟨⟨hgv, hn⟩, hb⟩ := hv
            have hl := hj.less i hi
            have hbar : barred l (clAt j.c i) = false := by
              rw [Bool.eq_false_iff]
              intro h
              unfold barred at h
              rw [Bool.or_eq_true] at h
              rcases h with h | h
              · obtain ⟨k, hk, e⟩ := List.any_eq_true.1 h
                have := hl.2.1 k hk
                have e1 := hfind k false this.1 (by omega) e
                rw [List.all_eq_true.1 hn k hk] at e1
                exact absurd e1 (by simp)
              · obtain ⟨k, hk, e⟩ := List.any_eq_true.1 h
                have := hl.2.2 k hk
                have e1 := hfind k true this.1 (by omega) e
                have : (clAt j.c i).bars.any j.truth = true := List.any_eq_true.2 ⟨k, hk, e1⟩
                rw [hb] at this
                exact absurd this (by simp)
            have : (j.G.any fun i => (clAt j.c i).gives == x.says && !barred l (clAt j.c i)) = true := List.any_eq_true.2 ⟨i, hi, by rw [hbar, hs]; simpa using hgv⟩
            rw [hg] at this
            exact absurd this (by simp)
end Go.Proofs.Statute
