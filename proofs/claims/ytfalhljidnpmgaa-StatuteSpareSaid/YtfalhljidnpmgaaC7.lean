/- Same of the reference: whether two lists of findings are equal. No condition beside the sizes. -/
import Derived.Test.YtfalhljidnpmgaaC6
set_option linter.unusedVariables false
set_option linter.unusedSimpArgs false
namespace Go.Proofs.Ytfalhljidnpmgaa
open Go.RowKit Go.Proofs.Statute Go.Maps

theorem reads_four {K : Nat → Prop} {w : World} {a : Option Addr} {n c : Nat} {xs : List Fnd} (h : Reads K w 4 encD (.slice a n c) xs) (i : Nat) (hi : i < xs.length) : ∃ b o, a = some ⟨b, o, none⟩ ∧ w.cell? ⟨b, o + i * 4, none⟩ = some (.int .i64 xs[i].says) ∧ w.cell? ⟨b, o + i * 4 + 1, none⟩ = some (.bool xs[i].holds) ∧ w.cell? ⟨b, o + i * 4 + 2, none⟩ = some (.int .i64 xs[i].fact) ∧ w.cell? ⟨b, o + i * 4 + 3, none⟩ = some (.int .i64 xs[i].clause) := by
  obtain ⟨a', c', e, _, _, h3⟩ := h
  injection e with e1 _ _
  subst e1
  obtain ⟨b, o, ea, _, _, hx⟩ := h3 (by omega)
  exact ⟨b, o, ea, hx i hi 0 _ rfl, hx i hi 1 _ rfl, hx i hi 2 _ rfl, hx i hi 3 _ rfl⟩
set_option maxRecDepth 100000 in
set_option maxHeartbeats 3200000 in
theorem same_any {K K2 : Nat → Prop} {w : World} {v u : Value} {xs ys : List Fnd} (hx : Reads K w 4 encD v xs) (hy : Reads K2 w 4 encD u ys) (hl : xs.length ≤ 1000000) (hl2 : ys.length ≤ 1000000) :
    Calls Try.prog 23 #[v, u] w fun e w' => e = .returned (.bool (decide (xs = ys))) ∧ Fr (fun _ => False) w w' := by
  have HX := hid hx
  have HY := hid hy
  obtain ⟨a, c, rfl, _⟩ := hx
  obtain ⟨a2, c2, rfl, _⟩ := hy
  by_cases hlen : xs.length = ys.length
  · rw [hlen] at HX hl ⊢
    have HLN := hid hlen
    clear hlen
    go_enter Try.func23, Try.ntmps23
    go_wp2
    go_loopw [5] (fun s5 wr => ∃ k : Nat, k ≤ ys.length ∧ s5 = .int .i64 k ∧ Hid (Fr (fun _ => False) w wr) ∧ Hid (∀ i (h1 : i < xs.length) (h2 : i < ys.length), i < k → xs[i] = ys[i])) (fun s5 _ => ys.length - (intOf s5).toNat)
    case atStart => exact ⟨0, Nat.zero_le _, rfl, hid (Fr.refl _ _), hid (fun i _ _ hi => absurd hi (Nat.not_lt_zero _))⟩
    case round =>
      obtain ⟨k, hk, rfl, hF, hA⟩ := hrel
      by_cases hlt : k < ys.length
      · have hltx : k < xs.length := by have := HLN.out; omega
        obtain ⟨b1, o1, rfl, d1, d2, d3, d4⟩ := reads_four (HX.out.fr hF.out (fun _ _ e => e)) k hltx
        obtain ⟨b2, o2, rfl, f1, f2, f3, f4⟩ := reads_four (HY.out.fr hF.out (fun _ _ e => e)) k hlt
        have HNE : Hid (xs[k] ≠ ys[k] → decide (xs = ys) = false) := hid (fun h => by
          simp only [decide_eq_false_iff_not]
          intro e
          subst e
          exact h rfl)
        have HEQ : Hid (xs[k] = ys[k] → ∀ i (h1 : i < xs.length) (h2 : i < ys.length), i < k + 1 → xs[i] = ys[i]) := hid (fun h i h1 h2 h3 => by
          by_cases e : i = k
          · subst e; exact h
          · exact hA.out i h1 h2 (by omega))
        generalize xs[k] = x at d1 d2 d3 d4 HNE HEQ
        generalize ys[k] = y at f1 f2 f3 f4 HNE HEQ
        obtain ⟨x1, x2, x3, x4⟩ := x
        obtain ⟨y1, y2, y3, y4⟩ := y
        dsimp only at d1 d2 d3 d4 f1 f2 f3 f4
        by_cases hq : (⟨x1, x2, x3, x4⟩ : Fnd) = ⟨y1, y2, y3, y4⟩
        · have HE := hid (HEQ.out hq)
          injection hq with q1 q2 q3 q4
          subst q1 q2 q3 q4
          clear HNE HEQ hltx
          go_wp2
          refine still_tail 8 (by kernel_rfl) (by kernel_rfl) ?_
          simp only [List.take_succ_cons, List.take_zero, List.drop_succ_cons, List.drop_zero]
          repeat still_step
          refine wpStill_nil ?_
          go_wp2
          go_roundw
          case rel => exact ⟨k + 1, by omega, by go_num, hid hF.out.drew, HE⟩
          case measure => simp [intOf]; omega
        · have HE := hid (HNE.out hq)
          have hq3 : ¬ (x1 = y1 ∧ x2 = y2 ∧ x3 = y3 ∧ x4 = y4) := fun e => hq (by rw [e.1, e.2.1, e.2.2.1, e.2.2.2])
          clear HNE HEQ hltx hq
          go_wp2
          refine still_tail 8 (by kernel_rfl) (by kernel_rfl) ?_
          simp only [List.take_succ_cons, List.take_zero, List.drop_succ_cons, List.drop_zero]
          repeat still_step
          refine wpStill_nil ?_
          go_wp2
          all_goals first
            | exact absurd ⟨‹_›, ‹_›, ‹_›, ‹_›⟩ hq3
            | (go_ret; exact ⟨by rw [HE.out]; rfl, hF.out.drew⟩)
      · obtain rfl : k = ys.length := by omega
        clear hlt hk
        have HE : Hid (decide (xs = ys) = true) := hid (by
          simp only [decide_eq_true_eq]
          exact List.ext_getElem HLN.out (fun i h1 h2 => hA.out i h1 h2 h2))
        go_wp2
        go_ret
        exact ⟨by rw [HE.out]; rfl, hF.out⟩
  · have HE : Hid (decide (xs = ys) = false) := hid (by
      simp only [decide_eq_false_iff_not]
      intro e
      exact hlen (by rw [e]))
    go_enter Try.func23, Try.ntmps23
    go_wp2
    go_ret
    exact ⟨by rw [HE.out]; rfl, Fr.refl _ _⟩
end Go.Proofs.Ytfalhljidnpmgaa
