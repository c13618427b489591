/- Ints of the reference: whether two lists of numbers are equal. No condition beside the sizes. -/
import Derived.Test.YtfalhljidnpmgaaC5
set_option linter.unusedVariables false
set_option linter.unusedSimpArgs false
namespace Go.Proofs.Ytfalhljidnpmgaa
open Go.RowKit Go.Proofs.Statute Go.Maps

set_option maxRecDepth 100000 in
set_option maxHeartbeats 3200000 in
theorem ints_any {K K2 : Nat → Prop} {w : World} {v u : Value} {xs ys : List Int} (hx : Reads K w 1 encI v xs) (hy : Reads K2 w 1 encI u ys) (hl : xs.length ≤ 1000000) (hl2 : ys.length ≤ 1000000) :
    Calls Try.prog 24 #[v, u] w fun e w' => e = .returned (.bool (decide (xs = ys))) ∧ Fr (fun _ => False) w w' := by
  have HX := hid hx
  have HY := hid hy
  obtain ⟨a, c, rfl, _⟩ := hx
  obtain ⟨a2, c2, rfl, _⟩ := hy
  by_cases hlen : xs.length = ys.length
  · rw [hlen] at HX hl ⊢
    have HLN := hid hlen
    clear hlen
    go_enter Try.func24, Try.ntmps24
    go_wp2
    go_loopw [5] (fun s5 wr => ∃ k : Nat, k ≤ ys.length ∧ s5 = .int .i64 k ∧ Hid (Fr (fun _ => False) w wr) ∧ Hid (∀ i (h1 : i < xs.length) (h2 : i < ys.length), i < k → xs[i] = ys[i])) (fun s5 _ => ys.length - (intOf s5).toNat)
    case atStart => exact ⟨0, Nat.zero_le _, rfl, hid (Fr.refl _ _), hid (fun i _ _ hi => absurd hi (Nat.not_lt_zero _))⟩
    case round =>
      obtain ⟨k, hk, rfl, hF, hA⟩ := hrel
      by_cases hlt : k < ys.length
      · have hltx : k < xs.length := by have := HLN.out; omega
        obtain ⟨b1, o1, rfl, _, _, d1⟩ := reads_one (HX.out.fr hF.out (fun _ _ e => e)) k hltx
        obtain ⟨b2, o2, rfl, _, _, d2⟩ := reads_one (HY.out.fr hF.out (fun _ _ e => e)) k hlt
        have HNE : Hid (xs[k] ≠ ys[k] → decide (xs = ys) = false) := hid (fun h => by
          simp only [decide_eq_false_iff_not]
          intro e
          subst e
          exact h rfl)
        have HEQ : Hid (xs[k] = ys[k] → ∀ i (h1 : i < xs.length) (h2 : i < ys.length), i < k + 1 → xs[i] = ys[i]) := hid (fun h i h1 h2 h3 => by
          by_cases e : i = k
          · subst e; exact h
          · exact hA.out i h1 h2 (by omega))
        generalize xs[k] = x at d1 HNE HEQ
        generalize ys[k] = y at d2 HNE HEQ
        by_cases hq : x = y
        · have HE := hid (HEQ.out hq)
          subst hq
          clear HNE HEQ hltx
          go_wp2
          refine still_tail 8 (by kernel_rfl) (by kernel_rfl) ?_
          simp only [List.take_succ_cons, List.take_zero, List.drop_succ_cons, List.drop_zero]
          repeat still_step
          refine wpStill_nil ?_
          go_wp2
          go_roundw
          case rel => exact ⟨k + 1, by omega, by go_num, hid hF.out.drew, HE⟩
          case measure => simp [intOf]; omega
        · have HE := hid (HNE.out hq)
          have hq2 : (x != y) = true := by simpa using hq
          clear HNE HEQ hltx hq
          go_wp2
          refine still_tail 8 (by kernel_rfl) (by kernel_rfl) ?_
          simp only [List.take_succ_cons, List.take_zero, List.drop_succ_cons, List.drop_zero]
          repeat still_step
          refine wpStill_nil ?_
          go_wp2
          go_ret
          exact ⟨by rw [HE.out]; rfl, hF.out.drew⟩
      · obtain rfl : k = ys.length := by omega
        clear hlt hk
        have HE : Hid (decide (xs = ys) = true) := hid (by
          simp only [decide_eq_true_eq]
          exact List.ext_getElem HLN.out (fun i h1 h2 => hA.out i h1 h2 h2))
        go_wp2
        go_ret
        exact ⟨by rw [HE.out]; rfl, hF.out⟩
  · have HE : Hid (decide (xs = ys) = false) := hid (by
      simp only [decide_eq_false_iff_not]
      intro e
      exact hlen (by rw [e]))
    go_enter Try.func24, Try.ntmps24
    go_wp2
    go_ret
    exact ⟨by rw [HE.out]; rfl, Fr.refl _ _⟩
end Go.Proofs.Ytfalhljidnpmgaa
