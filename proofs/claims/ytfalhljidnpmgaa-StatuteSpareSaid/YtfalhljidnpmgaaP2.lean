/- A finding that is right stays so in a longer list. Plain lists; no condition. -/
import Derived.Test.YtfalhljidnpmgaaP1
set_option linter.unusedVariables false
set_option linter.unusedSimpArgs false
namespace Go.Proofs.Statute

theorem finds_mono {l l' : List Fnd} (h : ∀ y ∈ l, y ∈ l') {n : Int} {b : Bool} (hf : finds l n b = true) : finds l' n b = true := by
  obtain ⟨y, hy, e⟩ := (finds_iff l n b).1 hf
  exact (finds_iff l' n b).2 ⟨y, h y hy, e⟩
theorem barred_mono {l l' : List Fnd} (h : ∀ y ∈ l, y ∈ l') {x : Cl} (hf : barred l x = true) : barred l' x = true := by
  unfold barred at *
  rw [Bool.or_eq_true] at *
  rcases hf with hf | hf
  · obtain ⟨k, hk, e⟩ := List.any_eq_true.1 hf
    exact .inl (List.any_eq_true.2 ⟨k, hk, finds_mono h e⟩)
  · obtain ⟨k, hk, e⟩ := List.any_eq_true.1 hf
    exact .inr (List.any_eq_true.2 ⟨k, hk, finds_mono h e⟩)
theorem right_mono {j : Jd} {l l' : List Fnd} (h : ∀ y ∈ l, y ∈ l') {x : Fnd} (hr : j.right l x = true) : j.right l' x = true := by
  unfold Jd.right at *
  split
  · rename_i hc
    rw [if_pos hc] at hr
    exact hr
  · rename_i hc
    rw [if_neg hc] at hr
    split
    · rename_i hc2
      rw [if_pos hc2] at hr
      simp only [Bool.and_eq_true, List.all_eq_true] at hr ⊢
      exact ⟨⟨hr.1.1, fun m hm => finds_mono h (hr.1.2 m hm)⟩, fun m hm => finds_mono h (hr.2 m hm)⟩
    · rename_i hc2
      rw [if_neg hc2] at hr
      simp only [Bool.and_eq_true, Bool.not_eq_true'] at hr ⊢
      refine ⟨hr.1, ?_⟩
      rw [Bool.eq_false_iff]
      intro hh
      obtain ⟨i, hi, e⟩ := List.any_eq_true.1 hh
      simp only [Bool.and_eq_true, Bool.not_eq_true'] at e
      have hb : barred l (clAt j.c i) = false := by
        cases hb : barred l (clAt j.c i) with
        | false => rfl
        | true =>
          have := barred_mono h hb
          rw [e.2] at this
          exact absurd this (by simp)
      have : (j.G.any fun i => (clAt j.c i).gives == x.says && !barred l (clAt j.c i)) = true := List.any_eq_true.2 ⟨i, hi, by rw [hb]; simpa using e.1⟩
      rw [hr.2] at this
      exact absurd this (by simp)
end Go.Proofs.Statute
