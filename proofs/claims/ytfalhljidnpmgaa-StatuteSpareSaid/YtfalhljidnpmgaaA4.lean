/- Valid and Asks: the closures. No condition beside the bounds. -/
import Derived.Test.YtfalhljidnpmgaaA3
set_option linter.unusedVariables false
set_option linter.unusedSimpArgs false
namespace Go.Proofs.Ytfalhljidnpmgaa
open Go.RowKit Go.Proofs.Statute

theorem Fr.cells {a b : World} (h : Fr (fun _ => False) a b) : ∀ k o, k < a.heap.size → b.cell? ⟨k, o, none⟩ = a.cell? ⟨k, o, none⟩ := fun k o hk => h.cell hk (fun e => e) o

set_option maxRecDepth 100000 in
set_option maxHeartbeats 6400000 in
theorem valid1 {K : Nat → Prop} (m : CM) (w : World) (hn : m.x.needs.length ≤ 1000000) (hb : m.x.bars.length ≤ 1000000) (h1 : Reads K w 1 encI m.nv m.x.needs) (h2 : Reads K w 1 encI m.bv m.x.bars) (hf : I64 m.x.fr) :
    Calls Try.prog 39 #[.agg (encC m).toArray] w fun e w' => e = .returned (.bool (!clB m.x)) ∧ Fr (fun _ => False) w w' := by
  obtain ⟨⟨xp, xf, xt, xn, xb, xg⟩, nv, bv⟩ := m
  dsimp only at hn hb h1 h2 hf
  unfold encC clB
  dsimp only
  have HN := hid h1
  have HB := hid h2
  have HF := hid hf
  have HLN := hid hn
  have HLB := hid hb
  have hg : inB xg 0 19 = true → 0 ≤ xg ∧ xg ≤ 1000 := fun h => by simp only [inB, Bool.and_eq_true, decide_eq_true_eq] at h; omega
  have HG := hid hg
  clear h1 h2 hf hn hb hg
  have T1 := hid trivial
  generalize hA : secB xp = A
  generalize hB : spellB xf xt = B
  generalize hC : inB xg 0 19 = C at HG
  generalize hD : ascends xn xg = D
  generalize hE : ascends xb xg = E
  have HA := hid hA
  have HS := hid hB
  have HC := hid hC
  have HD := hid hD
  have HE := hid hE
  clear hA hB hC hD hE
  cases A with
  | false =>
    go_enter Try.func39, Try.ntmps39
    go_wp2_with (first | (go_at_call 40; refine (isSecond_b _ _ _ HA.out).mono ?_; rintro e w' ⟨rfl, rfl⟩))
    go_ret
    exact ⟨by simp, (Fr.refl _ _).alloc _⟩
  | true =>
    cases B with
    | false =>
      go_enter Try.func39, Try.ntmps39
      go_wp2_with (first | (go_at_call 40; refine (isSecond_b _ _ _ HA.out).mono ?_; rintro e w' ⟨rfl, rfl⟩) | (go_at_call 41; refine (isSpell_b _ _ _ _ HS.out HF.out).mono ?_; rintro e w1 ⟨rfl, f1⟩; have r1 := f1.cells; have z1 : w.heap.size < w1.heap.size := by have := f1.size; simp at this; omega))
      go_ret
      exact ⟨by simp, ((Fr.refl _ _).alloc _).trans f1⟩
    | true =>
      cases C with
      | false =>
        go_enter Try.func39, Try.ntmps39
        go_wp2_with (first | (go_at_call 40; refine (isSecond_b _ _ _ HA.out).mono ?_; rintro e w' ⟨rfl, rfl⟩) | (go_at_call 41; refine (isSpell_b _ _ _ _ HS.out HF.out).mono ?_; rintro e w1 ⟨rfl, f1⟩; have r1 := f1.cells; have z1 : w.heap.size < w1.heap.size := by have := f1.size; simp at this; omega) | (go_at_call 42; refine (isIn_b _ _ _ _ _ HC.out).mono ?_; rintro e w' ⟨rfl, rfl⟩))
        go_ret
        exact ⟨by simp, ((Fr.refl _ _).alloc _).trans f1⟩
      | true =>
        cases D with
        | false =>
          go_enter Try.func39, Try.ntmps39
          go_wp2_with (first | (go_at_call 40; refine (isSecond_b _ _ _ HA.out).mono ?_; rintro e w' ⟨rfl, rfl⟩) | (go_at_call 41; refine (isSpell_b _ _ _ _ HS.out HF.out).mono ?_; rintro e w1 ⟨rfl, f1⟩; have r1 := f1.cells; have z1 : w.heap.size < w1.heap.size := by have := f1.size; simp at this; omega) | (go_at_call 42; refine (isIn_b _ _ _ _ _ HC.out).mono ?_; rintro e w' ⟨rfl, rfl⟩) | (go_at_call 43; clear T1; refine (ascends_any nv xn xg w1 HLN.out (((HN.out.mono (fun k hk _ => hk)).fr ((Fr.refl (fun _ => False) w).alloc _) (fun _ _ e => e)).fr f1 (fun _ _ e => e)) (HG.out (by simp)).1 (HG.out (by simp)).2 _ HD.out).mono ?_; rintro e w2 ⟨rfl, f2⟩; have r2 := f2.cells; have z2 : w.heap.size < w2.heap.size := by have := f2.size; omega))
          go_ret
          exact ⟨by simp, (((Fr.refl _ _).alloc _).trans f1).trans f2⟩
        | true =>
          cases E with
          | false =>
            go_enter Try.func39, Try.ntmps39
            go_wp2_with (first | (go_at_call 40; refine (isSecond_b _ _ _ HA.out).mono ?_; rintro e w' ⟨rfl, rfl⟩) | (go_at_call 41; refine (isSpell_b _ _ _ _ HS.out HF.out).mono ?_; rintro e w1 ⟨rfl, f1⟩; have r1 := f1.cells; have z1 : w.heap.size < w1.heap.size := by have := f1.size; simp at this; omega) | (go_at_call 42; refine (isIn_b _ _ _ _ _ HC.out).mono ?_; rintro e w' ⟨rfl, rfl⟩) | (go_at_call 43; clear T1; refine (ascends_any nv xn xg w1 HLN.out (((HN.out.mono (fun k hk _ => hk)).fr ((Fr.refl (fun _ => False) w).alloc _) (fun _ _ e => e)).fr f1 (fun _ _ e => e)) (HG.out (by simp)).1 (HG.out (by simp)).2 _ HD.out).mono ?_; rintro e w2 ⟨rfl, f2⟩; have r2 := f2.cells; have z2 : w.heap.size < w2.heap.size := by have := f2.size; omega) | (go_at_call 43; refine (ascends_any bv xb xg w2 HLB.out ((((HB.out.mono (fun k hk _ => hk)).fr ((Fr.refl (fun _ => False) w).alloc _) (fun _ _ e => e)).fr f1 (fun _ _ e => e)).fr f2 (fun _ _ e => e)) (HG.out (by simp)).1 (HG.out (by simp)).2 _ HE.out).mono ?_; rintro e w3 ⟨rfl, f3⟩))
            go_ret
            exact ⟨by simp, ((((Fr.refl _ _).alloc _).trans f1).trans f2).trans f3⟩
          | true =>
            go_enter Try.func39, Try.ntmps39
            go_wp2_with (first | (go_at_call 40; refine (isSecond_b _ _ _ HA.out).mono ?_; rintro e w' ⟨rfl, rfl⟩) | (go_at_call 41; refine (isSpell_b _ _ _ _ HS.out HF.out).mono ?_; rintro e w1 ⟨rfl, f1⟩; have r1 := f1.cells; have z1 : w.heap.size < w1.heap.size := by have := f1.size; simp at this; omega) | (go_at_call 42; refine (isIn_b _ _ _ _ _ HC.out).mono ?_; rintro e w' ⟨rfl, rfl⟩) | (go_at_call 43; clear T1; refine (ascends_any nv xn xg w1 HLN.out (((HN.out.mono (fun k hk _ => hk)).fr ((Fr.refl (fun _ => False) w).alloc _) (fun _ _ e => e)).fr f1 (fun _ _ e => e)) (HG.out (by simp)).1 (HG.out (by simp)).2 _ HD.out).mono ?_; rintro e w2 ⟨rfl, f2⟩; have r2 := f2.cells; have z2 : w.heap.size < w2.heap.size := by have := f2.size; omega) | (go_at_call 43; refine (ascends_any bv xb xg w2 HLB.out ((((HB.out.mono (fun k hk _ => hk)).fr ((Fr.refl (fun _ => False) w).alloc _) (fun _ _ e => e)).fr f1 (fun _ _ e => e)).fr f2 (fun _ _ e => e)) (HG.out (by simp)).1 (HG.out (by simp)).2 _ HE.out).mono ?_; rintro e w3 ⟨rfl, f3⟩))
            go_ret
            exact ⟨by simp, ((((Fr.refl _ _).alloc _).trans f1).trans f2).trans f3⟩

set_option maxRecDepth 100000 in
set_option maxHeartbeats 6400000 in
theorem valid2 (x : Rp) (B m cap : Nat) (ad : Option Addr) (w : World) (hm : m ≤ 1000) (hB : w.cell? ⟨B, 0, none⟩ = some (.slice ad m cap)) :
    Calls Try.prog 45 #[.agg (encR x).toArray, .pointer (some ⟨B, 0, none⟩)] w fun e w' => e = .returned (.bool (!rpB m x)) ∧ Fr (fun _ => False) w w' := by
  obtain ⟨xc, xp, xf⟩ := x
  unfold encR rpB
  dsimp only
  have hlt := World.block_lt_of_cell? w _ hB
  dsimp only at hlt
  generalize hA : inB xc 0 ((m : Int) - 1) = A
  generalize hC : secB xp = C
  generalize hD : secB xf = D
  have HA := hid hA
  have HC := hid hC
  have HD := hid hD
  clear hA hC hD
  have T1 := hid trivial
  cases A with
  | false =>
    go_enter Try.func45, Try.ntmps45
    go_wp2_with (first | (go_at_call 42; refine (isIn_b _ _ _ _ _ HA.out).mono ?_; rintro e w1 ⟨rfl, rfl⟩))
    go_ret
    exact ⟨by simp, (Fr.refl _ _).alloc _⟩
  | true =>
    cases C with
    | false =>
      go_enter Try.func45, Try.ntmps45
      go_wp2_with (first | (go_at_call 42; refine (isIn_b _ _ _ _ _ HA.out).mono ?_; rintro e w1 ⟨rfl, rfl⟩) | (go_at_call 40; clear T1; refine (isSecond_b _ _ _ HC.out).mono ?_; rintro e w1 ⟨rfl, rfl⟩))
      go_ret
      exact ⟨by simp, (Fr.refl _ _).alloc _⟩
    | true =>
      cases D with
      | false =>
        go_enter Try.func45, Try.ntmps45
        go_wp2_with (first | (go_at_call 42; refine (isIn_b _ _ _ _ _ HA.out).mono ?_; rintro e w1 ⟨rfl, rfl⟩) | (go_at_call 40; clear T1; refine (isSecond_b _ _ _ HC.out).mono ?_; rintro e w1 ⟨rfl, rfl⟩) | (go_at_call 40; refine (isSecond_b _ _ _ HD.out).mono ?_; rintro e w1 ⟨rfl, rfl⟩))
        go_ret
        exact ⟨by simp, (Fr.refl _ _).alloc _⟩
      | true =>
        go_enter Try.func45, Try.ntmps45
        go_wp2_with (first | (go_at_call 42; refine (isIn_b _ _ _ _ _ HA.out).mono ?_; rintro e w1 ⟨rfl, rfl⟩) | (go_at_call 40; clear T1; refine (isSecond_b _ _ _ HC.out).mono ?_; rintro e w1 ⟨rfl, rfl⟩) | (go_at_call 40; refine (isSecond_b _ _ _ HD.out).mono ?_; rintro e w1 ⟨rfl, rfl⟩))
        go_ret
        exact ⟨by simp, (Fr.refl _ _).alloc _⟩

set_option maxRecDepth 100000 in
set_option maxHeartbeats 6400000 in
theorem valid3 (x : Fc) (w : World) (h1 : I64 x.sf) (h2 : I64 x.kf) :
    Calls Try.prog 47 #[.agg (encF x).toArray] w fun e w' => e = .returned (.bool (!fcB x)) ∧ Fr (fun _ => False) w w' := by
  obtain ⟨xt, xs, sf, st, kf, kt⟩ := x
  dsimp only at h1 h2
  unfold encF fcB
  dsimp only
  have H1 := hid h1
  have H2 := hid h2
  clear h1 h2
  generalize hA : inB xt 0 99999999 = A
  generalize hB : inB xs 0 19 = B
  generalize hC : spellB sf st = C
  generalize hD : spellB kf kt = D
  have HA := hid hA
  have HB := hid hB
  have HC := hid hC
  have HD := hid hD
  clear hA hB hC hD
  have T1 := hid trivial
  have T2 := hid trivial
  cases A with
  | false =>
    go_enter Try.func47, Try.ntmps47
    go_wp2_with (first | (go_at_call 42; clear T1; refine (isIn_b _ _ _ _ _ HA.out).mono ?_; rintro e w1 ⟨rfl, rfl⟩))
    go_ret
    exact ⟨by simp, (Fr.refl _ _).alloc _⟩
  | true =>
    cases B with
    | false =>
      go_enter Try.func47, Try.ntmps47
      go_wp2_with (first | (go_at_call 42; clear T1; refine (isIn_b _ _ _ _ _ HA.out).mono ?_; rintro e w1 ⟨rfl, rfl⟩) | (go_at_call 42; refine (isIn_b _ _ _ _ _ HB.out).mono ?_; rintro e w1 ⟨rfl, rfl⟩))
      go_ret
      exact ⟨by simp, (Fr.refl _ _).alloc _⟩
    | true =>
      cases C with
      | false =>
        go_enter Try.func47, Try.ntmps47
        go_wp2_with (first | (go_at_call 42; clear T1; refine (isIn_b _ _ _ _ _ HA.out).mono ?_; rintro e w1 ⟨rfl, rfl⟩) | (go_at_call 42; refine (isIn_b _ _ _ _ _ HB.out).mono ?_; rintro e w1 ⟨rfl, rfl⟩) | (go_at_call 41; clear T2; refine (isSpell_b _ _ _ _ HC.out H1.out).mono ?_; rintro e w1 ⟨rfl, f1⟩; have r1 := f1.cells; have z1 : w.heap.size < w1.heap.size := by have := f1.size; simp at this; omega))
        go_ret
        exact ⟨by simp, ((Fr.refl _ _).alloc _).trans f1⟩
      | true =>
        cases D with
        | false =>
          go_enter Try.func47, Try.ntmps47
          go_wp2_with (first | (go_at_call 42; clear T1; refine (isIn_b _ _ _ _ _ HA.out).mono ?_; rintro e w1 ⟨rfl, rfl⟩) | (go_at_call 42; refine (isIn_b _ _ _ _ _ HB.out).mono ?_; rintro e w1 ⟨rfl, rfl⟩) | (go_at_call 41; clear T2; refine (isSpell_b _ _ _ _ HC.out H1.out).mono ?_; rintro e w1 ⟨rfl, f1⟩; have r1 := f1.cells; have z1 : w.heap.size < w1.heap.size := by have := f1.size; simp at this; omega) | (go_at_call 41; refine (isSpell_b _ _ _ _ HD.out H2.out).mono ?_; rintro e w2 ⟨rfl, f2⟩))
          go_ret
          exact ⟨by simp, (((Fr.refl _ _).alloc _).trans f1).trans f2⟩
        | true =>
          go_enter Try.func47, Try.ntmps47
          go_wp2_with (first | (go_at_call 42; clear T1; refine (isIn_b _ _ _ _ _ HA.out).mono ?_; rintro e w1 ⟨rfl, rfl⟩) | (go_at_call 42; refine (isIn_b _ _ _ _ _ HB.out).mono ?_; rintro e w1 ⟨rfl, rfl⟩) | (go_at_call 41; clear T2; refine (isSpell_b _ _ _ _ HC.out H1.out).mono ?_; rintro e w1 ⟨rfl, f1⟩; have r1 := f1.cells; have z1 : w.heap.size < w1.heap.size := by have := f1.size; simp at this; omega) | (go_at_call 41; refine (isSpell_b _ _ _ _ HD.out H2.out).mono ?_; rintro e w2 ⟨rfl, f2⟩))
          go_ret
          exact ⟨by simp, (((Fr.refl _ _).alloc _).trans f1).trans f2⟩

set_option maxRecDepth 100000 in
set_option maxHeartbeats 6400000 in
theorem asks_b (q : Qn) (w : World) (b : Bool) (hb : asksB q = b) :
    Calls Try.prog 26 #[.agg #[.int .i64 q.thing, .int .i64 q.says, .int .i64 q.sec, .int .i64 q.known]] w fun e w' => e = .returned (.bool b) ∧ Fr (fun _ => False) w w' := by
  subst hb
  obtain ⟨xt, xs, xa, xk⟩ := q
  unfold asksB
  dsimp only
  generalize hA : inB xt 0 99999999 = A
  generalize hB : inB xs 0 19 = B
  generalize hC : secB xa = C
  generalize hD : secB xk = D
  have HA := hid hA
  have HB := hid hB
  have HC := hid hC
  have HD := hid hD
  clear hA hB hC hD
  have T1 := hid trivial
  have T2 := hid trivial
  cases A with
  | false =>
    go_enter Try.func26, Try.ntmps26
    go_wp2_with (first | (go_at_call 42; clear T1; refine (isIn_b _ _ _ _ _ HA.out).mono ?_; rintro e w1 ⟨rfl, rfl⟩))
    go_ret
    exact ⟨by simp, (Fr.refl _ _).alloc _⟩
  | true =>
    cases B with
    | false =>
      go_enter Try.func26, Try.ntmps26
      go_wp2_with (first | (go_at_call 42; clear T1; refine (isIn_b _ _ _ _ _ HA.out).mono ?_; rintro e w1 ⟨rfl, rfl⟩) | (go_at_call 42; refine (isIn_b _ _ _ _ _ HB.out).mono ?_; rintro e w1 ⟨rfl, rfl⟩))
      go_ret
      exact ⟨by simp, (Fr.refl _ _).alloc _⟩
    | true =>
      cases C with
      | false =>
        go_enter Try.func26, Try.ntmps26
        go_wp2_with (first | (go_at_call 42; clear T1; refine (isIn_b _ _ _ _ _ HA.out).mono ?_; rintro e w1 ⟨rfl, rfl⟩) | (go_at_call 42; refine (isIn_b _ _ _ _ _ HB.out).mono ?_; rintro e w1 ⟨rfl, rfl⟩) | (go_at_call 40; clear T2; refine (isSecond_b _ _ _ HC.out).mono ?_; rintro e w1 ⟨rfl, rfl⟩))
        go_ret
        exact ⟨by simp, (Fr.refl _ _).alloc _⟩
      | true =>
        cases D with
        | false =>
          go_enter Try.func26, Try.ntmps26
          go_wp2_with (first | (go_at_call 42; clear T1; refine (isIn_b _ _ _ _ _ HA.out).mono ?_; rintro e w1 ⟨rfl, rfl⟩) | (go_at_call 42; refine (isIn_b _ _ _ _ _ HB.out).mono ?_; rintro e w1 ⟨rfl, rfl⟩) | (go_at_call 40; clear T2; refine (isSecond_b _ _ _ HC.out).mono ?_; rintro e w1 ⟨rfl, rfl⟩) | (go_at_call 40; refine (isSecond_b _ _ _ HD.out).mono ?_; rintro e w2 ⟨rfl, rfl⟩))
          go_ret
          exact ⟨by simp, (Fr.refl _ _).alloc _⟩
        | true =>
          go_enter Try.func26, Try.ntmps26
          go_wp2_with (first | (go_at_call 42; clear T1; refine (isIn_b _ _ _ _ _ HA.out).mono ?_; rintro e w1 ⟨rfl, rfl⟩) | (go_at_call 42; refine (isIn_b _ _ _ _ _ HB.out).mono ?_; rintro e w1 ⟨rfl, rfl⟩) | (go_at_call 40; clear T2; refine (isSecond_b _ _ _ HC.out).mono ?_; rintro e w1 ⟨rfl, rfl⟩) | (go_at_call 40; refine (isSecond_b _ _ _ HD.out).mono ?_; rintro e w2 ⟨rfl, rfl⟩))
          go_ret
          exact ⟨by simp, (Fr.refl _ _).alloc _⟩
end Go.Proofs.Ytfalhljidnpmgaa
