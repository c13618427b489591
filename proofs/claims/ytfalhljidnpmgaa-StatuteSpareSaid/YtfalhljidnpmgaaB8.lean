/- isRight and proves. No condition beside the bounds. -/
import Derived.Test.YtfalhljidnpmgaaB7
set_option linter.unusedVariables false
set_option linter.unusedSimpArgs false
namespace Go.Proofs.Ytfalhljidnpmgaa
open Go.RowKit Go.Proofs.Statute Go.Maps

theorem right_any {K : Nat → Prop} {w : World} {J b : Nat} {cl rl fl fv gv lv : Value} {ms : List CM} {j : Jd} {kn : Nat → Bool} {l : List Fnd} {K2 : Nat → Prop} (h : JW K w J b cl rl fl fv gv ms j kn) (hr : Reads K2 w 4 encD lv l) (hl : l.length ≤ 1000000) (x : Fnd) (v : Bool) (hv : j.right l x = v) :
    Calls Try.prog 49 #[.pointer (some ⟨J, 0, none⟩), .agg (encD x).toArray, lv] w fun e w' => e = .returned (.bool v) ∧ Fr (fun _ => False) w w' := by
  subst hv
  cases hH : x.holds with
  | false => exact right_c h hr hl x hH
  | true =>
    by_cases hc : x.clause = -1
    · exact right_a h hr hl x hH hc
    · exact right_b h hr hl x hH hc
theorem ascF_take : ∀ (l : List Fnd) (last : Int) (k : Nat) (hk : k < l.length), ascF last (l.take k) = true → ascF last (l.take (k + 1)) = inB l[k].says ((if k = 0 then last else (l[k - 1]?.getD default).says) + 1) 19
  | [], _, k, hk, _ => by simp at hk
  | x :: l, last, 0, _, _ => by simp [ascF]
  | x :: l, last, k + 1, hk, h => by
    rw [List.take_succ_cons] at h ⊢
    simp only [ascF, Bool.and_eq_true] at h ⊢
    rw [h.1, Bool.true_and, ascF_take l x.says k (by simpa using hk) h.2]
    congr 2
    cases k with
    | zero => simp
    | succ k => simp
def lastF (l : List Fnd) (k : Nat) : Int := if k = 0 then -1 else (l[k - 1]?.getD default).says
theorem ascF_cut : ∀ (l : List Fnd) (last : Int) (k : Nat), ascF last (l.take k) = false → ascF last l = false
  | [], _, k, h => by simpa using h
  | x :: l, last, 0, h => by simp [ascF] at h
  | x :: l, last, k + 1, h => by
    rw [List.take_succ_cons] at h
    simp only [ascF] at h ⊢
    cases hb : inB x.says (last + 1) 19 with
    | false => rfl
    | true =>
      rw [hb, Bool.true_and] at h
      rw [Bool.true_and]
      exact ascF_cut l x.says k h
theorem lastSays_eq : ∀ (l : List Fnd) (h : l ≠ []), lastSays l = ((l[l.length - 1]?.getD default).says, (l[l.length - 1]?.getD default).holds)
  | [], h => absurd rfl h
  | [x], _ => rfl
  | x :: y :: l, _ => by
    show lastSays (y :: l) = _
    rw [lastSays_eq (y :: l) (by simp)]
    simp
theorem lastF_in (l : List Fnd) : ∀ k, k ≤ l.length → ascF (-1) (l.take k) = true → -1 ≤ lastF l k ∧ lastF l k ≤ 19
  | 0, _, _ => by simp [lastF]
  | k + 1, hk, h => by
    have hlt : k < l.length := by omega
    have hp : ascF (-1) (l.take k) = true := by
      cases hb : ascF (-1) (l.take k) with
      | true => rfl
      | false =>
        have := ascF_cut (l.take (k + 1)) (-1) k (by rw [List.take_take, Nat.min_eq_left (by omega)]; exact hb)
        rw [h] at this
        exact absurd this (by simp)
    have ih := lastF_in l k (by omega) hp
    rw [ascF_take l (-1) k hlt hp] at h
    simp only [inB, Bool.and_eq_true, decide_eq_true_eq] at h
    have e : lastF l (k + 1) = l[k].says := by simp [lastF, hlt]
    have e2 : (if k = 0 then (-1 : Int) else (l[k - 1]?.getD default).says) = lastF l k := rfl
    rw [e2] at h
    rw [e]
    omega
def ProvesR (w : World) (v : Bool) (e : Ending) (w' : World) : Prop := e = .returned (.bool v) ∧ Fr (fun _ => False) w w'
set_option maxRecDepth 100000 in
set_option maxHeartbeats 12800000 in
theorem proves_any {K : Nat → Prop} {w : World} {J b : Nat} {cl rl fl fv gv lv : Value} {ms : List CM} {j : Jd} {kn : Nat → Bool} {l : List Fnd} {K2 : Nat → Prop} (h : JW K w J b cl rl fl fv gv ms j kn) (hr : Reads K2 w 4 encD lv l) (hl : l.length ≤ 1000000) (n : Int) (hh : Bool) :
    Calls Try.prog 34 #[.pointer (some ⟨J, 0, none⟩), .int .i64 n, .bool hh, lv] w (ProvesR w (j.proves n hh l)) := by
  have H := hid h
  have HR := hid hr
  obtain ⟨a, c, rfl, hc1, hc2, _⟩ := hr
  clear h
  go_enter Try.func34, Try.ntmps34
  go_wp2
  go_loopw [9, 14] (fun s9 s14 wr => ∃ k : Nat, k ≤ l.length ∧ s14 = .int .i64 k ∧ s9 = .int .i64 (lastF l k) ∧ Hid (Fr (fun _ => False) w wr) ∧ Hid (ascF (-1) (l.take k) = true ∧ ∀ i (hi : i < l.length), i < k → j.right l l[i] = true)) (fun _ s14 _ => l.length - (intOf s14).toNat)
  case atStart => exact ⟨0, Nat.zero_le _, rfl, rfl, hid (Fr.refl _ _), hid ⟨by simp [ascF], fun i _ hi => absurd hi (Nat.not_lt_zero _)⟩⟩
  case round =>
    obtain ⟨k, hk, rfl, rfl, hF, hA⟩ := hrel
    have hla := lastF_in l k hk hA.out.1
    by_cases hlt : k < l.length
    · obtain ⟨a', c', ee, _, _, h3⟩ := (HR.out.fr hF.out (fun _ _ e => e))
      injection ee with ea _ eb
      subst ea eb
      obtain ⟨b3, o3, rfl, _, _, hx⟩ := h3 (by omega)
      have d0 := hx k hlt 0 _ rfl
      have d1 := hx k hlt 1 _ rfl
      have d2 := hx k hlt 2 _ rfl
      have d3 := hx k hlt 3 _ rfl
      rw [Nat.add_zero] at d0
      have hasc := ascF_take l (-1) k hlt hA.out.1
      have e2 : (if k = 0 then (-1 : Int) else (l[k - 1]?.getD default).says) = lastF l k := rfl
      rw [e2] at hasc
      have hnx : lastF l (k + 1) = l[k].says := by simp [lastF, hlt]
      have HNX := hid hnx
      have HB1 : Hid (inB l[k].says (lastF l k + 1) 19 = false → j.proves n hh l = false) := hid (fun he => by
        unfold Jd.proves
        rw [ascF_cut l (-1) (k + 1) (by rw [hasc]; exact he)]
        rfl)
      have HB2 : Hid (j.right l l[k] = false → j.proves n hh l = false) := hid (fun he => by
        unfold Jd.proves
        have : l.all (j.right l) = false := by
          rw [Bool.eq_false_iff]
          intro hall
          rw [List.all_eq_true.1 hall _ (List.getElem_mem hlt)] at he
          exact absurd he (by simp)
        rw [this]
        simp)
      have HOK : Hid (inB l[k].says (lastF l k + 1) 19 = true → j.right l l[k] = true → ascF (-1) (l.take (k + 1)) = true ∧ ∀ i (hi : i < l.length), i < k + 1 → j.right l l[i] = true) := hid (fun e1 e2 => ⟨by rw [hasc]; exact e1, fun i hi hlt2 => by
        by_cases e : i = k
        · subst e; exact e2
        · exact hA.out.2 i hi (by omega)⟩)
      have HRT : Hid (∀ W v, Fr (fun _ => False) w W → j.right l l[k] = v → Calls Try.prog 49 #[.pointer (some ⟨J, 0, none⟩), .agg (encD l[k]).toArray, .slice (some ⟨b3, o3, none⟩) l.length c] W fun e w' => e = .returned (.bool v) ∧ Fr (fun _ => False) W w') := hid (fun W v hW hv => right_any (H.out.quiet hW) (HR.out.fr hW (fun _ _ e => e)) hl l[k] v hv)
      clear hx h3 hasc hnx e2
      generalize hy : l[k] = y at d0 d1 d2 d3 HNX HB1 HB2 HOK HRT
      clear hy
      generalize lastF l k = la at hla HB1 HOK
      obtain ⟨s, t, u, v⟩ := y
      unfold encD at HRT
      dsimp only at d0 d1 d2 d3 HNX HB1 HB2 HOK HRT
      have F4 := hid (hF.out.alloc (.cells #[.int .i64 s, .bool t, .int .i64 u, .int .i64 v] 63))
      cases hA1 : inB s (la + 1) 19 with
      | false =>
        have HE := hid (HB1.out hA1)
        have HA1 := hid hA1
        clear hA1 HB1 HB2 HOK HRT
        go_wp2_with (go_at_call 42; refine (isIn_b _ _ _ _ _ HA1.out).mono ?_; rintro e w1 ⟨rfl, rfl⟩)
        go_ret
        exact ⟨by rw [HE.out]; rfl, F4.out⟩
      | true =>
        have HA1 := hid hA1
        cases hA2 : j.right l ⟨s, t, u, v⟩ with
        | false =>
          have HE := hid (HB2.out hA2)
          have HRF := hid (HRT.out _ false F4.out hA2)
          clear hA1 hA2 HB1 HB2 HOK HRT
          go_wp2_with (first | (go_at_call 42; refine (isIn_b _ _ _ _ _ HA1.out).mono ?_; rintro e w1 ⟨rfl, rfl⟩) | (go_at_call 49; refine HRF.out.mono ?_; rintro e w2 ⟨rfl, f2⟩))
          go_ret
          exact ⟨by rw [HE.out]; rfl, F4.out.trans f2⟩
        | true =>
          have HE := hid (HOK.out hA1 hA2)
          have HRF := hid (HRT.out _ true F4.out hA2)
          clear hA1 hA2 HB1 HB2 HOK HRT
          go_wp2_with (first | (go_at_call 42; refine (isIn_b _ _ _ _ _ HA1.out).mono ?_; rintro e w1 ⟨rfl, rfl⟩) | (go_at_call 49; refine HRF.out.mono ?_; rintro e w2 ⟨rfl, f2⟩; have x0 := (f2.cells wr.heap.size 0 (by simp)).trans (alloc_cell wr _ _ wr.heap.size rfl 0); simp only [List.getElem?_cons_zero] at x0; have F2 := hid (F4.out.trans f2); clear f2))
          go_roundw
          case rel => exact ⟨k + 1, by omega, by go_num, by rw [HNX.out], F2, HE⟩
          case measure => simp [intOf]; omega
    · obtain rfl : k = l.length := by omega
      clear hlt hk
      have HPV : Hid (j.proves n hh l = (decide (l ≠ []) && (lastF l l.length == n) && ((l[l.length - 1]?.getD default).holds == hh))) := hid (by
        unfold Jd.proves
        have e1 := hA.out.1
        rw [List.take_length] at e1
        have e2 : l.all (j.right l) = true := by
          rw [List.all_eq_true]
          intro x hx
          obtain ⟨i, hi, rfl⟩ := List.getElem_of_mem hx
          exact hA.out.2 i hi hi
        rw [e1, e2]
        by_cases hn : l = []
        · subst hn; simp
        · have hpos : l.length ≠ 0 := fun e => hn (List.eq_nil_of_length_eq_zero e)
          rw [lastSays_eq l hn]
          simp only [Bool.true_and]
          congr 2
          simp [lastF, hpos])
      clear hA
      by_cases hn : l = []
      · have HV : Hid ((decide (l ≠ []) && (lastF l l.length == n) && ((l[l.length - 1]?.getD default).holds == hh)) = false) := hid (by rw [hn]; rfl)
        have HE := hid (HPV.out.trans HV.out)
        have hl0 : l.length = 0 := by rw [hn]; rfl
        clear hn HV HPV hla
        generalize lastF l l.length = la
        go_wp2
        go_ret
        exact ⟨by rw [HE.out]; simp, hF.out⟩
      · have hpos : 0 < l.length := by
          cases l with
          | nil => exact absurd rfl hn
          | cons x l => simp
        obtain ⟨m, hm⟩ : ∃ m, l.length = m + 1 := ⟨l.length - 1, by omega⟩
        have hml : m < l.length := by omega
        have HV : Hid ((decide (l ≠ []) && (lastF l l.length == n) && ((l[l.length - 1]?.getD default).holds == hh)) = ((lastF l l.length == n) && (l[m].holds == hh))) := hid (by
          rw [show l.length - 1 = m by omega]
          simp [hn, hml])
        have HE := HPV.out.trans HV.out
        clear HV HPV
        obtain ⟨a', c', ee, _, _, h3⟩ := (HR.out.fr hF.out (fun _ _ e => e))
        injection ee with ea _ eb
        subst ea eb
        obtain ⟨b3, o3, rfl, _, _, hx⟩ := h3 (by omega)
        have d1 := hx m hml 1 _ rfl
        have he : ((l.length : Int) - 1) = (m : Int) := by omega
        have HLM := hid hm
        clear hx h3 hm hn
        generalize l[m].holds = t at d1 HE
        generalize lastF l l.length = la at HE ⊢
        cases hq : (la == n) with
        | false =>
          rw [hq] at HE
          have HEE := hid HE
          clear HE
          go_wp2
          go_ret
          exact ⟨by rw [HEE.out]; simp, hF.out⟩
        | true =>
          rw [hq] at HE
          have HEE := hid HE
          clear HE
          cases t <;> cases hh
          all_goals
            go_wp2
            go_ret
            exact ⟨by rw [HEE.out]; simp, hF.out⟩
end Go.Proofs.Ytfalhljidnpmgaa
