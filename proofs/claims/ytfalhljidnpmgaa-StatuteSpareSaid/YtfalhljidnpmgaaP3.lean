/- No finding of what Decide returns can be left out: in plain words. No condition. -/
import Derived.Test.YtfalhljidnpmgaaP2
set_option linter.unusedVariables false
set_option linter.unusedSimpArgs false
namespace Go.Proofs.Statute

theorem ascF_of : ∀ (l : List Fnd) (last : Int), (∀ x ∈ l, last < x.says ∧ x.says ≤ 19) → l.Pairwise (fun x y => x.says < y.says) → ascF last l = true
  | [], _, _, _ => rfl
  | x :: l, last, h, hp => by
    have hx := h x (by simp)
    rw [List.pairwise_cons] at hp
    simp only [ascF, inB, Bool.and_eq_true, decide_eq_true_eq]
    exact ⟨⟨by omega, hx.2⟩, ascF_of l x.says (fun y hy => ⟨hp.1 y hy, (h y (by simp [hy])).2⟩) hp.2⟩
theorem ascF_sub {l l' : List Fnd} (hs : l'.Sublist l) {last : Int} (h : ascF last l = true) : ascF last l' = true := by
  obtain ⟨h1, h2⟩ := ascF_pair l last h
  exact ascF_of l' last (fun x hx => h1 x (hs.subset hx)) (h2.sublist hs)
theorem lastSays_cons (x : Fnd) : ∀ (l : List Fnd), l ≠ [] → lastSays (x :: l) = lastSays l
  | [], h => absurd rfl h
  | y :: l, _ => rfl
theorem lastSays_erase : ∀ (l : List Fnd) (k : Nat), k + 1 < l.length → lastSays (l.eraseIdx k) = lastSays l
  | [], _, h => by simp at h
  | [x], k, h => by simp at h
  | x :: y :: l, 0, _ => rfl
  | x :: y :: l, k + 1, h => by
    have hl : k + 1 < (y :: l).length := by simpa using h
    have ih := lastSays_erase (y :: l) k hl
    have hne : (y :: l).eraseIdx k ≠ [] := by
      intro e
      have := congrArg List.length e
      rw [List.length_eraseIdx_of_lt (by omega)] at this
      simp only [List.length_nil] at this
      omega
    rw [List.eraseIdx_cons_succ, lastSays_cons x _ hne, ih]
    rfl
/-- What a finding is right by stands ahead of it. -/
theorem right_ahead {j : Jd} (hj : j.Ok) {l l' : List Fnd} {x : Fnd} (h : ∀ y ∈ l, y.says < x.says → y ∈ l') (hr : j.right l x = true) : j.right l' x = true := by
  have hf : ∀ (n : Int) (b : Bool), n < x.says → finds l n b = true → finds l' n b = true := fun n b hn hf => by
    obtain ⟨y, hy, h1, h2⟩ := (finds_iff l n b).1 hf
    exact (finds_iff l' n b).2 ⟨y, h y hy (by omega), h1, h2⟩
  have hG : ∀ z : Int, hasN j.G z = true → z.toNat ∈ j.G := fun z hz => by
    obtain ⟨i, hi, e⟩ := (hasN_iff j.G z).1 hz
    rw [← e]
    simpa using hi
  unfold Jd.right at hr ⊢
  split
  · rename_i hc
    rw [if_pos hc] at hr
    exact hr
  · rename_i hc
    rw [if_neg hc] at hr
    split
    · rename_i hc2
      rw [if_pos hc2] at hr
      simp only [Bool.and_eq_true, List.all_eq_true, beq_iff_eq] at hr ⊢
      have hl := hj.less _ (hG _ hr.1.1.1.2)
      rw [hr.1.1.2] at hl
      exact ⟨⟨hr.1.1, fun m hm => hf m _ (hl.2.1 m hm).2 (hr.1.2 m hm)⟩, fun m hm => hf m _ (hl.2.2 m hm).2 (hr.2 m hm)⟩
    · rename_i hc2
      rw [if_neg hc2] at hr
      simp only [Bool.and_eq_true, Bool.not_eq_true'] at hr ⊢
      refine ⟨hr.1, ?_⟩
      rw [Bool.eq_false_iff]
      intro hh
      obtain ⟨i, hi, e⟩ := List.any_eq_true.1 hh
      simp only [Bool.and_eq_true, Bool.not_eq_true', beq_iff_eq] at e
      have hl := hj.less i hi
      rw [e.1] at hl
      have hb : barred l (clAt j.c i) = false := by
        rw [Bool.eq_false_iff]
        intro hb
        have : barred l' (clAt j.c i) = true := by
          unfold barred at hb ⊢
          rw [Bool.or_eq_true, List.any_eq_true, List.any_eq_true] at hb ⊢
          rcases hb with ⟨m, hm, hb⟩ | ⟨m, hm, hb⟩
          · exact .inl ⟨m, hm, hf m _ (hl.2.1 m hm).2 hb⟩
          · exact .inr ⟨m, hm, hf m _ (hl.2.2 m hm).2 hb⟩
        rw [e.2] at this
        exact absurd this (by simp)
      have : (j.G.any fun i => (clAt j.c i).gives == x.says && !barred l (clAt j.c i)) = true := List.any_eq_true.2 ⟨i, hi, by rw [hb]; simpa using e.1⟩
      rw [hr.2] at this
      exact absurd this (by simp)
theorem proves_iff {j : Jd} {n : Int} {h : Bool} {l : List Fnd} : j.proves n h l = true ↔ ascF (-1) l = true ∧ (∀ x ∈ l, j.right l x = true) ∧ l ≠ [] ∧ (lastSays l).1 = n ∧ (lastSays l).2 = h := by
  unfold Jd.proves
  simp only [Bool.and_eq_true, List.all_eq_true, decide_eq_true_eq, beq_iff_eq]
  constructor
  · rintro ⟨⟨⟨⟨h1, h2⟩, h3⟩, h4⟩, h5⟩
    exact ⟨h1, h2, h3, h4, h5⟩
  · rintro ⟨h1, h2, h3, h4, h5⟩
    exact ⟨⟨⟨⟨h1, h2⟩, h3⟩, h4⟩, h5⟩
/-- Without its last finding a list proves nothing about the number. -/
theorem proves_last {j : Jd} {n : Int} {h : Bool} {l : List Fnd} (hp : j.proves n h l = true) : j.proves n h (l.eraseIdx (l.length - 1)) = false := by
  rw [Bool.eq_false_iff]
  intro hq
  rw [proves_iff] at hp hq
  obtain ⟨h1, _, h3, h4, _⟩ := hp
  obtain ⟨_, _, k3, k4, _⟩ := hq
  obtain ⟨x, hx, ex⟩ := lastSays_mem _ k3
  rw [ex] at k4
  obtain ⟨_, hpw⟩ := ascF_pair l _ h1
  have hlen : 0 < l.length := List.length_pos_iff.2 h3
  have hsplit : l = l.eraseIdx (l.length - 1) ++ [l[l.length - 1]] := by
    rw [List.eraseIdx_eq_take_drop_succ, show l.length - 1 + 1 = l.length by omega, List.drop_length, List.append_nil]
    conv => lhs; rw [← List.take_append_drop (l.length - 1) l]
    rw [List.drop_eq_getElem_cons (by omega), show l.length - 1 + 1 = l.length by omega, List.drop_length]
  have hls : lastSays l = (l[l.length - 1].says, l[l.length - 1].holds) := by
    conv => lhs; rw [hsplit]
    exact lastSays_snoc _ _
  rw [hls] at h4
  rw [hsplit, List.pairwise_append] at hpw
  have := hpw.2.2 x hx (l[l.length - 1]) (by simp)
  dsimp only at h4 k4
  omega
theorem erase_two {l : List Fnd} {i k : Nat} (hk : k ≤ i) : (l.eraseIdx k).eraseIdx i = (l.eraseIdx (i + 1)).eraseIdx k := by
  apply List.ext_getElem?
  intro m
  simp only [List.getElem?_eraseIdx]
  split <;> split <;> split <;> (try split) <;> (try rfl) <;> (try omega)
theorem greedy_bare {j : Jd} (hj : j.Ok) {n : Int} {h : Bool} : ∀ (k : Nat) (l : List Fnd), j.proves n h l = true → k < l.length → (∀ i, k ≤ i → i < l.length → j.proves n h (l.eraseIdx i) = false) →
    ∀ i, i < (greedy (j.proves n h) k l).length → j.proves n h ((greedy (j.proves n h) k l).eraseIdx i) = false
  | 0, l, _, _, hb, i, hi => hb i (Nat.zero_le _) hi
  | k + 1, l, hp, hk, hb, i, hi => by
    unfold greedy at hi ⊢
    cases hq : j.proves n h (l.eraseIdx k) with
    | false =>
      rw [hq] at hi
      simp only [Bool.false_eq_true, if_false] at hi ⊢
      refine greedy_bare hj k l hp (by omega) (fun i hi1 hi2 => ?_) i hi
      by_cases e : i = k
      · rw [e]; exact hq
      · exact hb i (by omega) hi2
    | true =>
      rw [hq] at hi
      simp only [if_true] at hi ⊢
      have hlen : (l.eraseIdx k).length = l.length - 1 := List.length_eraseIdx_of_lt (by omega)
      refine greedy_bare hj k (l.eraseIdx k) hq (by omega) (fun i hi1 hi2 => ?_) i hi
      by_cases e : i = (l.eraseIdx k).length - 1
      · rw [e]; exact proves_last hq
      · rw [Bool.eq_false_iff]
        intro hc
        have hno := hb (i + 1) (by omega) (by omega)
        rw [erase_two hi1] at hc
        have hL : (l.eraseIdx (i + 1)).length = l.length - 1 := List.length_eraseIdx_of_lt (by omega)
        rw [proves_iff] at hp hc
        have hsub : (l.eraseIdx (i + 1)).Sublist l := List.eraseIdx_sublist _ _
        have hyes : j.proves n h (l.eraseIdx (i + 1)) = true := by
          rw [proves_iff]
          refine ⟨ascF_sub hsub hp.1, fun x hx => ?_, fun e => ?_, ?_, ?_⟩
          · by_cases hx2 : x ∈ (l.eraseIdx (i + 1)).eraseIdx k
            · exact right_mono (fun y hy => (List.eraseIdx_sublist _ _).subset hy) (hc.2.1 x hx2)
            · have hxl := hsub.subset hx
              obtain ⟨m, hm, em⟩ := List.mem_iff_getElem.1 hx
              have hmk : m = k := by
                rcases Nat.lt_trichotomy m k with hlt | heq | hgt
                · exact absurd (List.mem_iff_getElem?.2 ⟨m, by rw [List.getElem?_eraseIdx, if_pos hlt, List.getElem?_eq_getElem hm, em]⟩) hx2
                · exact heq
                · exact absurd (List.mem_iff_getElem?.2 ⟨m - 1, by rw [List.getElem?_eraseIdx, if_neg (by omega), show m - 1 + 1 = m by omega, List.getElem?_eq_getElem hm, em]⟩) hx2
              subst hmk
              have hxk : l[m]'(by omega) = x := by
                rw [← em, List.getElem_eraseIdx_of_lt hm (by omega)]
              refine right_ahead hj (fun y hy hlt => ?_) (hp.2.1 x hxl)
              obtain ⟨r, hr, er⟩ := List.mem_iff_getElem.1 hy
              have hrm : r < m := by
                rcases Nat.lt_or_ge r m with h2 | h2
                · exact h2
                · exfalso
                  rcases Nat.eq_or_lt_of_le h2 with h3 | h3
                  · subst h3
                    rw [← er, hxk] at hlt
                    omega
                  · have := List.pairwise_iff_getElem.1 (ascF_pair l _ hp.1).2 m r (by omega) hr h3
                    rw [hxk, er] at this
                    omega
              exact List.mem_iff_getElem?.2 ⟨r, by rw [List.getElem?_eraseIdx, if_pos (by omega), List.getElem?_eq_getElem hr, er]⟩
          · have := congrArg List.length e
            rw [hL] at this
            simp only [List.length_nil] at this
            omega
          · rw [← lastSays_erase _ k (by omega)]
            exact hc.2.2.2.1
          · rw [← lastSays_erase _ k (by omega)]
            exact hc.2.2.2.2
        rw [hno] at hyes
        exact absurd hyes (by simp)
/-- No finding of what Decide returns can be left out. -/
theorem proof_bare {j : Jd} (hj : j.Ok) {n : Int} (h0 : 0 ≤ n) (h1 : n ≤ 19) (i : Nat) (hi : i < (j.proof n).length) : j.proves n (j.truth n) ((j.proof n).eraseIdx i) = false := by
  obtain ⟨N, rfl⟩ := Int.eq_ofNat_of_zero_le h0
  have hu := proves_up hj (N := N) (by omega)
  have hlen : (up j (N + 1)).length = N + 1 := by simp [up]
  refine greedy_bare hj N (up j (N + 1)) hu (by omega) (fun i hi1 hi2 => ?_) i hi
  have : i = (up j (N + 1)).length - 1 := by omega
  rw [this]
  exact proves_last hu
theorem proof_some {j : Jd} (hj : j.Ok) {n : Int} (h0 : 0 ≤ n) (h1 : n ≤ 19) : (j.proof n).length ≠ 0 := by
  have := proof_proves hj h0 h1
  rw [proves_iff] at this
  exact fun e => this.2.2.1 (List.length_eq_zero_iff.1 e)
end Go.Proofs.Statute
