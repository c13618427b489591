/- What does not apply changes nothing; what the makers of inputs make is valid: in plain words. No condition. -/
import Derived.Test.YtfalhljidnpmgaaP3
set_option linter.unusedVariables false
set_option linter.unusedSimpArgs false
namespace Go.Proofs.Statute

structure Alike (j j' : Jd) : Prop where
  F : j'.F = j.F
  G : j'.G = j.G
  fc : ∀ i ∈ j.F, fcAt j'.c i = fcAt j.c i
  cl : ∀ i ∈ j.G, clAt j'.c i = clAt j.c i
theorem find_congr_mem {α : Type} {p q : α → Bool} : ∀ {l : List α}, (∀ x ∈ l, p x = q x) → l.find? p = l.find? q
  | [], _ => rfl
  | x :: l, h => by
    rw [List.find?_cons, List.find?_cons, h x (by simp), find_congr_mem (fun y hy => h y (by simp [hy]))]
theorem any_congr_mem {α : Type} {p q : α → Bool} : ∀ {l : List α}, (∀ x ∈ l, p x = q x) → l.any p = l.any q
  | [], _ => rfl
  | x :: l, h => by
    rw [List.any_cons, List.any_cons, h x (by simp), any_congr_mem (fun y hy => h y (by simp [hy]))]
section
variable {j j' : Jd}
theorem Alike.find (h : Alike j j') (t : Int → Bool) (n : Int) : j'.find t n = j.find t n := by
  unfold Jd.find
  rw [h.F, h.G]
  have e1 : j.F.find? (fun i => (fcAt j'.c i).says == n) = j.F.find? (fun i => (fcAt j.c i).says == n) := find_congr_mem (fun i hi => by rw [h.fc i hi])
  have e2 : j.G.find? (j'.gives t n) = j.G.find? (j.gives t n) := find_congr_mem (fun i hi => by unfold Jd.gives; rw [h.cl i hi])
  rw [e1, e2]
theorem Alike.tr (h : Alike j j') : ∀ (k : Nat) (n : Int), j'.tr k n = j.tr k n
  | 0, _ => rfl
  | k + 1, n => by
    show (j'.find (j'.tr k) n).holds = (j.find (j.tr k) n).holds
    rw [h.find, show j'.tr k = j.tr k from funext (h.tr k)]
theorem Alike.truth (h : Alike j j') (n : Int) : j'.truth n = j.truth n := h.tr 20 n
theorem hasN_mem {l : List Nat} {z : Int} (h : hasN l z = true) : z.toNat ∈ l := by
  obtain ⟨i, hi, e⟩ := (hasN_iff l z).1 h
  rw [← e]
  simpa using hi
theorem Alike.right (h : Alike j j') (l : List Fnd) (x : Fnd) : j'.right l x = j.right l x := by
  unfold Jd.right
  rw [h.F, h.G]
  have e1 : (hasN j.F x.fact && (fcAt j'.c x.fact.toNat).says == x.says) = (hasN j.F x.fact && (fcAt j.c x.fact.toNat).says == x.says) := by
    cases hh : hasN j.F x.fact with
    | false => rfl
    | true => rw [h.fc _ (hasN_mem hh)]
  have e2 : (x.fact == -1 && hasN j.G x.clause && (clAt j'.c x.clause.toNat).gives == x.says && (clAt j'.c x.clause.toNat).needs.all (fun n => finds l n true) && (clAt j'.c x.clause.toNat).bars.all (fun n => finds l n false)) = (x.fact == -1 && hasN j.G x.clause && (clAt j.c x.clause.toNat).gives == x.says && (clAt j.c x.clause.toNat).needs.all (fun n => finds l n true) && (clAt j.c x.clause.toNat).bars.all (fun n => finds l n false)) := by
    cases hh : hasN j.G x.clause with
    | false => simp
    | true => rw [h.cl _ (hasN_mem hh)]
  have e3 : j.F.any (fun i => (fcAt j'.c i).says == x.says) = j.F.any (fun i => (fcAt j.c i).says == x.says) := any_congr_mem (fun i hi => by rw [h.fc i hi])
  have e4 : j.G.any (fun i => (clAt j'.c i).gives == x.says && !barred l (clAt j'.c i)) = j.G.any (fun i => (clAt j.c i).gives == x.says && !barred l (clAt j.c i)) := any_congr_mem (fun i hi => by rw [h.cl i hi])
  rw [e1, e2, e3, e4]
theorem Alike.proves (h : Alike j j') (n : Int) (b : Bool) (l : List Fnd) : j'.proves n b l = j.proves n b l := by
  unfold Jd.proves
  rw [show j'.right l = j.right l from funext (h.right l)]
end
theorem filter_more {p p' : Nat → Bool} {m : Nat} : ∀ k, (∀ i, i < m → p' i = p i) → (∀ i, m ≤ i → i < m + k → p' i = false) → (List.range (m + k)).filter p' = (List.range m).filter p
  | 0, h, _ => List.filter_congr (fun i hi => h i (List.mem_range.1 hi))
  | k + 1, h, h' => by
    rw [← Nat.add_assoc, List.range_succ, List.filter_append, filter_more k h (fun i h1 h2 => h' i h1 (by omega))]
    simp [h' (m + k) (by omega) (by omega)]
/-- Further clauses, repeals and facts, none of which applies. -/
structure Past (q : Qn) (c c' : Rb) : Prop where
  cls : ∃ xs, c'.cls = c.cls ++ xs ∧ ∀ x ∈ xs, ¬ (x.pub ≤ q.known ∧ hasB x.fr x.to q.sec = true)
  rps : ∃ ys, c'.rps = c.rps ++ ys ∧ ∀ y ∈ ys, ¬ (y.pub ≤ q.known ∧ y.fr ≤ q.sec)
  fcs : ∃ zs, c'.fcs = c.fcs ++ zs ∧ ∀ z ∈ zs, statesB q z = false
theorem Past.alike {q : Qn} {c c' : Rb} (h : Past q c c') : Alike (jdOf c q) (jdOf c' q) := by
  obtain ⟨⟨xs, ex, hx⟩, ⟨ys, ey, hy⟩, ⟨zs, ez, hz⟩⟩ := h
  have hf : ∀ i, i < c.fcs.length → fcAt c' i = fcAt c i := fun i hi => by
    unfold fcAt
    rw [ez, List.getElem?_append_left hi]
  have hc : ∀ i, i < c.cls.length → clAt c' i = clAt c i := fun i hi => by
    unfold clAt
    rw [ex, List.getElem?_append_left hi]
  have hr : ∀ i, (c'.rps.any fun r => r.cl == (i : Int) && decide (r.pub ≤ q.known) && decide (r.fr ≤ q.sec)) = (c.rps.any fun r => r.cl == (i : Int) && decide (r.pub ≤ q.known) && decide (r.fr ≤ q.sec)) := fun i => by
    rw [ey, List.any_append]
    have : (ys.any fun r => r.cl == (i : Int) && decide (r.pub ≤ q.known) && decide (r.fr ≤ q.sec)) = false := by
      rw [Bool.eq_false_iff]
      intro hh
      obtain ⟨r, hr, e⟩ := List.any_eq_true.1 hh
      simp only [Bool.and_eq_true, decide_eq_true_eq] at e
      exact hy r hr ⟨e.1.2, e.2⟩
    rw [this, Bool.or_false]
  have hrl : ∀ i, i < c.cls.length → rulesB c' q i = rulesB c q i := fun i hi => by
    unfold rulesB
    rw [hc i hi, hr i]
  have e1 : factsOf c' q = factsOf c q := by
    unfold factsOf
    rw [ez, List.length_append]
    refine filter_more zs.length (fun i hi => by rw [hf i hi]) (fun i h1 h2 => ?_)
    refine hz _ ?_
    unfold fcAt
    rw [ez, List.getElem?_append_right h1, List.getElem?_eq_getElem (by omega)]
    exact List.getElem_mem _
  have e2 : clausesOf c' q = clausesOf c q := by
    unfold clausesOf
    rw [ex, List.length_append]
    refine filter_more xs.length (fun i hi => hrl i hi) (fun i h1 h2 => ?_)
    have hm : clAt c' i ∈ xs := by
      unfold clAt
      rw [ex, List.getElem?_append_right h1, List.getElem?_eq_getElem (by omega)]
      exact List.getElem_mem _
    have := hx _ hm
    unfold rulesB
    rw [Bool.eq_false_iff]
    intro hh
    simp only [Bool.and_eq_true, decide_eq_true_eq] at hh
    exact this ⟨hh.1.1, hh.1.2⟩
  refine ⟨e1, e2, fun i hi => hf i ?_, fun i hi => hc i ?_⟩
  · simp only [jdOf, factsOf, List.mem_filter, List.mem_range] at hi
    exact hi.1
  · simp only [jdOf, clausesOf, List.mem_filter, List.mem_range] at hi
    exact hi.1
end Go.Proofs.Statute
