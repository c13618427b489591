/- isRight, of a finding by a clause. No condition beside the bounds. -/
import Derived.Test.YtfalhljidnpmgaaB6
import Derived.Laws.EntriesVeiled
import Derived.Deep.RegionHeld
set_option linter.unusedVariables false
set_option linter.unusedSimpArgs false
namespace Go.Proofs.Ytfalhljidnpmgaa
open Go.RowKit Go.Proofs.Statute Go.Maps


theorem alloc_cell (W : World) (cs : Array Value) (ty : TypeId) (g : Nat) (hg : W.heap.size = g) (i : Nat) : (W.alloc (.cells cs ty)).cell? ⟨g, i, none⟩ = cs.toList[i]? := by
  subst hg
  rw [cell_of_row _ _ _ _ _ _ (heap_alloc_new W _)]
  simp
set_option maxRecDepth 100000 in
set_option maxHeartbeats 12800000 in
theorem right_b {K : Nat → Prop} {w : World} {J b : Nat} {cl rl fl fv gv lv : Value} {ms : List CM} {j : Jd} {kn : Nat → Bool} {l : List Fnd} {K2 : Nat → Prop} (h : JW K w J b cl rl fl fv gv ms j kn) (hr : Reads K2 w 4 encD lv l) (hl : l.length ≤ 1000000) (x : Fnd) (hH : x.holds = true) (hc : x.clause ≠ -1) :
    Calls Try.prog 49 #[.pointer (some ⟨J, 0, none⟩), .agg (encD x).toArray, lv] w fun e w' => e = .returned (.bool (j.right l x)) ∧ Fr (fun _ => False) w w' := by
  obtain ⟨s, H, f, c⟩ := x
  unfold encD
  dsimp only at *
  have hjr : j.right l ⟨s, H, f, c⟩ = (if H && c == -1 then hasN j.F f && (fcAt j.c f.toNat).says == s
    else if H then f == -1 && hasN j.G c && (clAt j.c c.toNat).gives == s && (clAt j.c c.toNat).needs.all (fun n => finds l n true) && (clAt j.c c.toNat).bars.all (fun n => finds l n false)
    else (f == -1 && c == -1) && !j.F.any (fun i => (fcAt j.c i).says == s) && !j.G.any fun i => (clAt j.c i).gives == s && !barred l (clAt j.c i)) := rfl
  rw [hjr]
  clear hjr
  obtain ⟨al, cll, rfl, hcl1, hcl2, _⟩ := id hr
  have BX := hid (boxes_new w J s H f c (.slice al l.length cll))
  have HW := hid (h.quiet BX.out.fr)
  have HFN := hid (BX.out.fin hr hl)
  obtain ⟨a4, e4, hfv, _⟩ := h.hF
  obtain ⟨a5, e5, hgv, _⟩ := h.hG
  rw [nats_length] at hfv hgv
  subst hfv hgv
  obtain ⟨a1, c1, rfl, _⟩ := h.rb.hc
  obtain ⟨a2, e2, rfl, _⟩ := h.rb.hr
  obtain ⟨a3, e3, rfl, _⟩ := h.rb.hf
  have hlF := h.lF
  have hlG := h.lG
  have j0 := row_cell HW.out.hJ 0
  have j2 := row_cell HW.out.hJ 2
  have j3 := row_cell HW.out.hJ 3
  have j4 := row_cell HW.out.hJ 4
  simp only [List.getElem?_cons_zero, List.getElem?_cons_succ] at j0 j2 j3 j4
  subst hH
  have hc2 : (c == -1) = false := by simpa using hc
  rw [if_neg (by rw [hc2]; simp), if_pos rfl]
  have HCT : Hid (∀ q b, hasN j.G c = b → Calls Try.prog 66 #[.slice a5 j.G.length e5, .int .i64 c] ((((((w.alloc (.cells #[.pointer (some ⟨J, 0, none⟩)] 78)).alloc (.cells #[.int .i64 s, .bool true, .int .i64 f, .int .i64 c] 63)).alloc (.cells #[.slice al l.length cll] 28)).alloc (.cells #[.func (.func 60) #[] #[.pointer (some ⟨w.heap.size + 1 + 1, 0, none⟩)]] 111)).alloc (.cells #[.func (.func 63) #[] #[.pointer (some ⟨w.heap.size, 0, none⟩), .pointer (some ⟨w.heap.size + 1 + 1 + 1, 0, none⟩)]] 81)).drewN q) fun e w' => e = .returned (.bool b) ∧ w' = (((((w.alloc (.cells #[.pointer (some ⟨J, 0, none⟩)] 78)).alloc (.cells #[.int .i64 s, .bool true, .int .i64 f, .int .i64 c] 63)).alloc (.cells #[.slice al l.length cll] 28)).alloc (.cells #[.func (.func 60) #[] #[.pointer (some ⟨w.heap.size + 1 + 1, 0, none⟩)]] 111)).alloc (.cells #[.func (.func 63) #[] #[.pointer (some ⟨w.heap.size, 0, none⟩), .pointer (some ⟨w.heap.size + 1 + 1 + 1, 0, none⟩)]] 81)).drewN q) := hid (fun q b hb => (contains66 (HW.out.hG.fr ((Fr.refl (fun _ => False) _).drewN q) (fun _ _ e => e)) (by rw [nats_length]; omega) c b (by rw [nats_any]; exact hb)).mono (fun _ _ h => ⟨h.1, h.2.symm⟩))
  have FB := hid BX.out.fr
  by_cases hf1 : f = -1
  · subst hf1
    cases hq : hasN j.G c with
    | false =>
      have HC := hid (fun q => HCT.out q false hq)
      clear HCT hq h hr
      go_enter Try.func49, Try.ntmps49
      go_wp2
      go_quiet ((go_at_call 66; exact Calls.quiet_of_same (HC.out _)))
      go_wp2
      go_ret
      exact ⟨by simp, FB.out.drewN _⟩
    | true =>
      have HC := hid (fun q => HCT.out q true hq)
      obtain ⟨i, hi, hif⟩ : ∃ i ∈ j.G, (i : Int) = c := by
        unfold hasN at hq
        obtain ⟨i, hi, e⟩ := List.any_eq_true.1 hq
        exact ⟨i, hi, by simpa using e⟩
      have hin := HW.out.inG i hi
      subst hif
      have hlm := HW.out.lm
      obtain ⟨b3, o3, c1', xp, xf, xt, xn, xb, xg, a8, c8, a9, c9, ee, hb3, hcl, r1, r2, l1, l2, d0, d1, d2, d3, d4, d5⟩ := clause_cells HW.out i hin
      injection ee with ea _ eb
      subst ea eb
      rw [Int.toNat_natCast, hcl]
      dsimp only
      clear HCT hq hr hi hcl
      cases hg : (xg == s) with
      | false =>
        clear h r1 r2
        go_enter Try.func49, Try.ntmps49
        go_wp2
        go_quiet ((go_at_call 66; exact Calls.quiet_of_same (HC.out _)))
        go_wp2
        go_ret
        exact ⟨by simp, FB.out.drewN _⟩
      | true =>
        have HC1 : Hid (∀ W, Fr (fun _ => False) (((((w.alloc (.cells #[.pointer (some ⟨J, 0, none⟩)] 78)).alloc (.cells #[.int .i64 s, .bool true, .int .i64 (-1), .int .i64 i] 63)).alloc (.cells #[.slice al l.length cll] 28)).alloc (.cells #[.func (.func 60) #[] #[.pointer (some ⟨w.heap.size + 1 + 1, 0, none⟩)]] 111)).alloc (.cells #[.func (.func 63) #[] #[.pointer (some ⟨w.heap.size, 0, none⟩), .pointer (some ⟨w.heap.size + 1 + 1 + 1, 0, none⟩)]] 81)) W → Calls Try.prog 56 #[.slice a8 xn.length c8, .func (.func 67) #[] #[.pointer (some ⟨w.heap.size + 1 + 1 + 1, 0, none⟩)]] W fun e w' => e = .returned (.bool (xn.any fun n => !finds l n true)) ∧ Fr (fun _ => False) W w') :=
          hid (fun W hW => anyI (K := K) (fun n => !finds l n true) 67 #[] #[.pointer (some ⟨w.heap.size + 1 + 1 + 1, 0, none⟩)] enters67 _ xn _ (by omega) (r1.fr hW (fun _ _ e => e)) (fun k hk W' hf => closure67 ((HFN.out.quiet hW).quiet hf) xn[k]))
        have HC2 : Hid (∀ W, Fr (fun _ => False) (((((w.alloc (.cells #[.pointer (some ⟨J, 0, none⟩)] 78)).alloc (.cells #[.int .i64 s, .bool true, .int .i64 (-1), .int .i64 i] 63)).alloc (.cells #[.slice al l.length cll] 28)).alloc (.cells #[.func (.func 60) #[] #[.pointer (some ⟨w.heap.size + 1 + 1, 0, none⟩)]] 111)).alloc (.cells #[.func (.func 63) #[] #[.pointer (some ⟨w.heap.size, 0, none⟩), .pointer (some ⟨w.heap.size + 1 + 1 + 1, 0, none⟩)]] 81)) W → Calls Try.prog 56 #[.slice a9 xb.length c9, .func (.func 68) #[] #[.pointer (some ⟨w.heap.size + 1 + 1 + 1, 0, none⟩)]] W fun e w' => e = .returned (.bool (xb.any fun n => !finds l n false)) ∧ Fr (fun _ => False) W w') :=
          hid (fun W hW => anyI (K := K) (fun n => !finds l n false) 68 #[] #[.pointer (some ⟨w.heap.size + 1 + 1 + 1, 0, none⟩)] enters68 _ xb _ (by omega) (r2.fr hW (fun _ _ e => e)) (fun k hk W' hf => closure68 ((HFN.out.quiet hW).quiet hf) xb[k]))
        have hn1 : (xn.all fun n => finds l n true) = !(xn.any fun n => !finds l n true) := by rw [any_not, Bool.not_not]
        have hn2 : (xb.all fun n => finds l n false) = !(xb.any fun n => !finds l n false) := by rw [any_not, Bool.not_not]
        rw [hn1, hn2]
        clear h r1 r2 hn1 hn2
        generalize (xn.any fun n => !finds l n true) = A at HC1
        generalize (xb.any fun n => !finds l n false) = B at HC2
        have T1 := hid trivial
        have HAA : Hid (True = True) := hid rfl
        go_enter Try.func49, Try.ntmps49
        go_wp2
        go_quiet ((go_at_call 66; exact Calls.quiet_of_same (HC.out _)))
        go_wp2
        rename_i nq
        have y0 := row_cell BX.out.b0 0
        have y3 := row_cell BX.out.b1 3
        simp only [List.getElem?_cons_zero, List.getElem?_cons_succ] at y0 y3
        go_region_held (fun w' : World => w'.cell? ⟨w.heap.size, 0, none⟩ = some (.pointer (some ⟨J, 0, none⟩)) ∧ w'.cell? ⟨J, 0, none⟩ = some (.slice (some ⟨b3, o3, none⟩) ms.length c1) ∧ w'.cell? ⟨w.heap.size + 1, 3, none⟩ = some (.int .i64 i) ∧ w'.cell? ⟨b3, o3 + i * 6, none⟩ = some (.int .i64 xp) ∧ w'.cell? ⟨b3, o3 + i * 6 + 1, none⟩ = some (.int .i64 xf) ∧ w'.cell? ⟨b3, o3 + i * 6 + 2, none⟩ = some (.int .i64 xt) ∧ w'.cell? ⟨b3, o3 + i * 6 + 3, none⟩ = some (.slice a8 xn.length c8) ∧ w'.cell? ⟨b3, o3 + i * 6 + 4, none⟩ = some (.slice a9 xb.length c9) ∧ w'.cell? ⟨b3, o3 + i * 6 + 5, none⟩ = some (.int .i64 xg)) (first | assumption | exact ⟨y0, j0, y3, d0, d1, d2, d3, d4, d5⟩ | go_keep) (fail)
        clear d0 d1 d2 d3 d4 d5 j0 j2 j3 j4 y0 y3
        cases A with
        | true =>
          go_wp2_with (first | (go_at_call 56; refine (HC1.out _ (((Fr.refl _ _).drewN _).alloc _)).mono ?_; rintro e w1 ⟨rfl, f1⟩; have F1 := hid ((((Fr.refl (fun _ => False) (((((w.alloc (.cells #[.pointer (some ⟨J, 0, none⟩)] 78)).alloc (.cells #[.int .i64 s, .bool true, .int .i64 (-1), .int .i64 i] 63)).alloc (.cells #[.slice al l.length cll] 28)).alloc (.cells #[.func (.func 60) #[] #[.pointer (some ⟨w.heap.size + 1 + 1, 0, none⟩)]] 111)).alloc (.cells #[.func (.func 63) #[] #[.pointer (some ⟨w.heap.size, 0, none⟩), .pointer (some ⟨w.heap.size + 1 + 1 + 1, 0, none⟩)]] 81))).drewN _).alloc _).trans f1); clear f1))
          go_ret
          exact ⟨by simp, FB.out.trans F1.out⟩
        | false =>
          go_wp2_with (first | (go_at_call 56; clear T1; refine (HC1.out _ (((Fr.refl _ _).drewN _).alloc _)).mono ?_; rintro e w1 ⟨rfl, f1⟩; have F1 := hid ((((Fr.refl (fun _ => False) (((((w.alloc (.cells #[.pointer (some ⟨J, 0, none⟩)] 78)).alloc (.cells #[.int .i64 s, .bool true, .int .i64 (-1), .int .i64 i] 63)).alloc (.cells #[.slice al l.length cll] 28)).alloc (.cells #[.func (.func 60) #[] #[.pointer (some ⟨w.heap.size + 1 + 1, 0, none⟩)]] 111)).alloc (.cells #[.func (.func 63) #[] #[.pointer (some ⟨w.heap.size, 0, none⟩), .pointer (some ⟨w.heap.size + 1 + 1 + 1, 0, none⟩)]] 81))).drewN _).alloc _).trans f1); have x4 := (f1.cells (w.heap.size + 1 + 1 + 1 + 1 + 1) 4 (by simp)).trans (alloc_cell _ _ _ (w.heap.size + 1 + 1 + 1 + 1 + 1) (by simp) 4); simp only [List.getElem?_cons_zero, List.getElem?_cons_succ] at x4; clear f1) | (go_at_call 56; refine (HC2.out _ F1.out).mono ?_; rintro e w2 ⟨rfl, f2⟩))
          go_ret
          exact ⟨by simp, (FB.out.trans F1.out).trans f2⟩
  · clear h hr HCT
    have hf2 : (f != -1) = true := by simpa using hf1
    have HF1 := hid hf1
    clear hf1
    go_enter Try.func49, Try.ntmps49
    go_wp2
    go_quiet (fail)
    go_wp2
    go_ret
    exact ⟨by have hf3 : (f == -1) = false := (by simpa using HF1.out); rw [hf3]; rfl, FB.out.drewN _⟩
end Go.Proofs.Ytfalhljidnpmgaa
