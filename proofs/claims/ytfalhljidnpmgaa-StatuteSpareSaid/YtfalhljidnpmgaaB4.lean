/- The closures of isRight that look into the rules. No condition beside the bounds. -/
import Derived.Test.YtfalhljidnpmgaaB3
set_option linter.unusedVariables false
set_option linter.unusedSimpArgs false
namespace Go.Proofs.Ytfalhljidnpmgaa
open Go.RowKit Go.Proofs.Statute Go.Maps

theorem clause_cells {K : Nat → Prop} {w : World} {J b : Nat} {cl rl fl fv gv : Value} {ms : List CM} {j : Jd} {kn : Nat → Bool} (h : JW K w J b cl rl fl fv gv ms j kn) (i : Nat) (hi : i < ms.length) :
    ∃ b3 o3 c1 xp xf xt xn xb xg a8 c8 a9 c9, cl = .slice (some ⟨b3, o3, none⟩) ms.length c1 ∧ b3 < w.heap.size ∧ clAt j.c i = ⟨xp, xf, xt, xn, xb, xg⟩ ∧ Reads K w 1 encI (.slice a8 xn.length c8) xn ∧ Reads K w 1 encI (.slice a9 xb.length c9) xb ∧ xn.length ≤ 4 ∧ xb.length ≤ 4 ∧
      w.cell? ⟨b3, o3 + i * 6, none⟩ = some (.int .i64 xp) ∧ w.cell? ⟨b3, o3 + i * 6 + 1, none⟩ = some (.int .i64 xf) ∧ w.cell? ⟨b3, o3 + i * 6 + 2, none⟩ = some (.int .i64 xt) ∧ w.cell? ⟨b3, o3 + i * 6 + 3, none⟩ = some (.slice a8 xn.length c8) ∧ w.cell? ⟨b3, o3 + i * 6 + 4, none⟩ = some (.slice a9 xb.length c9) ∧ w.cell? ⟨b3, o3 + i * 6 + 5, none⟩ = some (.int .i64 xg) := by
  obtain ⟨a1, c1, rfl, _, _, h3⟩ := h.rb.hc
  obtain ⟨b3, o3, rfl, _, hb, hx⟩ := h3 (by omega)
  have d0 := hx i hi 0 _ rfl
  have d1 := hx i hi 1 _ rfl
  have d2 := hx i hi 2 _ rfl
  have d3 := hx i hi 3 _ rfl
  have d4 := hx i hi 4 _ rfl
  have d5 := hx i hi 5 _ rfl
  rw [Nat.add_zero] at d0
  have hcl := clAt_get h.rb.cls hi
  have hln := h.ln _ (List.getElem_mem hi)
  have hnb := h.rb.hn _ (List.getElem_mem hi)
  generalize ms[i] = mc at d0 d1 d2 d3 d4 d5 hcl hln hnb
  obtain ⟨⟨xp, xf, xt, xn, xb, xg⟩, nv, bv⟩ := mc
  dsimp only at d0 d1 d2 d3 d4 d5 hcl hln hnb
  obtain ⟨r1, r2⟩ := hnb
  obtain ⟨a8, c8, e8, _⟩ := id r1
  obtain ⟨a9, c9, e9, _⟩ := id r2
  subst e8 e9
  exact ⟨b3, o3, c1, xp, xf, xt, xn, xb, xg, a8, c8, a9, c9, rfl, hb, hcl, r1, r2, hln.1, hln.2, d0, d1, d2, d3, d4, d5⟩

set_option maxRecDepth 100000 in
set_option maxHeartbeats 6400000 in
theorem closure63 {K : Nat → Prop} {w : World} {J b bj fb lb : Nat} {cl rl fl fv gv lv : Value} {ms : List CM} {j : Jd} {kn : Nat → Bool} {l : List Fnd} (h : JW K w J b cl rl fl fv gv ms j kn) (hb : w.cell? ⟨bj, 0, none⟩ = some (.pointer (some ⟨J, 0, none⟩))) {K2 : Nat → Prop} (hh : Fin K2 w fb lb lv l) (i : Nat) (hi : i < ms.length) (v : Bool) (hv : barred l (clAt j.c i) = v) :
    Calls Try.prog 63 #[.int .i64 i, .pointer (some ⟨bj, 0, none⟩), .pointer (some ⟨fb, 0, none⟩)] w fun e w' => e = .returned (.bool v) ∧ Fr (fun _ => False) w w' := by
  obtain ⟨b3, o3, c1, xp, xf, xt, xn, xb, xg, a8, c8, a9, c9, rfl, hb3, hcl, r1, r2, l1, l2, d0, d1, d2, d3, d4, d5⟩ := clause_cells h i hi
  have hlm := h.lm
  rw [hcl] at hv
  have hv2 : (xn.any (fun n => finds l n false) || xb.any fun n => finds l n true) = v := hv
  clear hv hcl
  have e0 := row_cell h.hJ 0
  simp only [List.getElem?_cons_zero] at e0
  have HW0 : Hid (Fr (fun _ => False) w (w.alloc (.cells #[.int .i64 xp, .int .i64 xf, .int .i64 xt, .slice a8 xn.length c8, .slice a9 xb.length c9, .int .i64 xg] 51))) := hid ((Fr.refl _ _).alloc _)
  have HC1 : Hid (Calls Try.prog 56 #[.slice a8 xn.length c8, .func (.func 64) #[] #[.pointer (some ⟨fb, 0, none⟩)]] (w.alloc (.cells #[.int .i64 xp, .int .i64 xf, .int .i64 xt, .slice a8 xn.length c8, .slice a9 xb.length c9, .int .i64 xg] 51)) fun e w' => e = .returned (.bool (xn.any fun n => finds l n false)) ∧ Fr (fun _ => False) (w.alloc (.cells #[.int .i64 xp, .int .i64 xf, .int .i64 xt, .slice a8 xn.length c8, .slice a9 xb.length c9, .int .i64 xg] 51)) w') :=
    hid (anyI (K := K) (fun n => finds l n false) 64 #[] #[.pointer (some ⟨fb, 0, none⟩)] enters64 _ xn _ (by omega) (r1.fr HW0.out (fun _ _ e => e)) (fun k hk W hf => closure64 ((hh.quiet HW0.out).quiet hf) xn[k]))
  have HC2 : Hid (∀ W, Fr (fun _ => False) w W → Calls Try.prog 56 #[.slice a9 xb.length c9, .func (.func 65) #[] #[.pointer (some ⟨fb, 0, none⟩)]] W fun e w' => e = .returned (.bool (xb.any fun n => finds l n true)) ∧ Fr (fun _ => False) W w') :=
    hid (fun W hW => anyI (K := K) (fun n => finds l n true) 65 #[] #[.pointer (some ⟨fb, 0, none⟩)] enters65 _ xb _ (by omega) (r2.fr hW (fun _ _ e => e)) (fun k hk W' hf => closure65 ((hh.quiet hW).quiet hf) xb[k]))
  clear r1 r2 hh h
  generalize (xn.any fun n => finds l n false) = A at HC1 hv2
  generalize (xb.any fun n => finds l n true) = B at HC2 hv2
  have T1 := hid trivial
  cases A with
  | true =>
    have HV : Hid (v = true) := hid (by rw [← hv2]; simp)
    clear hv2 HC2
    go_enter Try.func63, Try.ntmps63
    go_wp2_with (go_at_call 56; refine HC1.out.mono ?_; rintro e w1 ⟨rfl, f1⟩)
    go_ret
    exact ⟨by rw [HV.out]; simp, HW0.out.trans f1⟩
  | false =>
    have HV : Hid (v = B) := hid (by rw [← hv2]; simp)
    clear hv2
    go_enter Try.func63, Try.ntmps63
    go_wp2_with (first | (go_at_call 56; clear T1; refine HC1.out.mono ?_; rintro e w1 ⟨rfl, f1⟩; have r1 := f1.cells; have F1 := hid (HW0.out.trans f1); have z1 : w.heap.size < w1.heap.size := (by have := f1.size; simp at this; omega); clear f1) | (go_at_call 56; refine (HC2.out _ F1.out).mono ?_; rintro e w2 ⟨rfl, f2⟩))
    go_ret
    exact ⟨by rw [HV.out]; simp, F1.out.trans f2⟩
theorem enters63 : ∀ args w, (callFunc 63 args).run Try.prog w = .ok (.enter 63 args) w := enters_of Try.func63 (by kernel_rfl) rfl
theorem enters69 : ∀ args w, (callFunc 69 args).run Try.prog w = .ok (.enter 69 args) w := enters_of Try.func69 (by kernel_rfl) rfl
theorem enters70 : ∀ args w, (callFunc 70 args).run Try.prog w = .ok (.enter 70 args) w := enters_of Try.func70 (by kernel_rfl) rfl

set_option maxRecDepth 100000 in
set_option maxHeartbeats 3200000 in
theorem closure69 {K : Nat → Prop} {w : World} {J b bj bx : Nat} {cl rl fl fv gv : Value} {ms : List CM} {j : Jd} {kn : Nat → Bool} (h : JW K w J b cl rl fl fv gv ms j kn) (hb : w.cell? ⟨bj, 0, none⟩ = some (.pointer (some ⟨J, 0, none⟩))) (x : Int) (hx : w.cell? ⟨bx, 0, none⟩ = some (.int .i64 x)) (i : Nat) (hi : i < j.c.fcs.length) :
    Calls Try.prog 69 #[.int .i64 i, .pointer (some ⟨bj, 0, none⟩), .pointer (some ⟨bx, 0, none⟩)] w fun e w' => e = .returned (.bool ((fcAt j.c i).says == x)) ∧ Fr (fun _ => False) w w' := by
  have hl3 := h.rb.l3
  obtain ⟨a1, c1, rfl, hc1, hc2, h3⟩ := h.rb.hf
  obtain ⟨b3, o3, rfl, _, hb3, hxx⟩ := h3 (by omega)
  have d1 := hxx i hi 1 _ rfl
  rw [fcAt_get hi] at d1
  have e2 := row_cell h.hJ 2
  simp only [List.getElem?_cons_zero, List.getElem?_cons_succ] at e2
  clear h hxx h3
  generalize (fcAt j.c i).says = y at d1
  go_enter Try.func69, Try.ntmps69
  go_wp2
  refine still_tail 12 (by kernel_rfl) (by kernel_rfl) ?_
  simp only [List.take_succ_cons, List.take_zero, List.drop_succ_cons, List.drop_zero]
  repeat still_step
  refine wpStill_nil ?_
  go_wp2
  go_ret
  exact ⟨by simp, (Fr.refl _ _).drew⟩
set_option maxRecDepth 100000 in
set_option maxHeartbeats 6400000 in
theorem closure70 {K : Nat → Prop} {w : World} {J b bj bx bb fb lb : Nat} {cl rl fl fv gv lv : Value} {ms : List CM} {j : Jd} {kn : Nat → Bool} {l : List Fnd} (h : JW K w J b cl rl fl fv gv ms j kn) (hb : w.cell? ⟨bj, 0, none⟩ = some (.pointer (some ⟨J, 0, none⟩))) (x : Int) (hx : w.cell? ⟨bx, 0, none⟩ = some (.int .i64 x))
    {K2 : Nat → Prop} (hh : Fin K2 w fb lb lv l) (hbb : w.cell? ⟨bb, 0, none⟩ = some (.func (.func 63) #[] #[.pointer (some ⟨bj, 0, none⟩), .pointer (some ⟨fb, 0, none⟩)])) (i : Nat) (hi : i < ms.length) :
    Calls Try.prog 70 #[.int .i64 i, .pointer (some ⟨bj, 0, none⟩), .pointer (some ⟨bx, 0, none⟩), .pointer (some ⟨bb, 0, none⟩)] w fun e w' => e = .returned (.bool ((clAt j.c i).gives == x && !barred l (clAt j.c i))) ∧ Fr (fun _ => False) w w' := by
  have HB : Hid (∀ v, barred l (clAt j.c i) = v → Calls Try.prog 63 #[.int .i64 i, .pointer (some ⟨bj, 0, none⟩), .pointer (some ⟨fb, 0, none⟩)] w.drew fun e w' => e = .returned (.bool v) ∧ Fr (fun _ => False) w.drew w') := hid (fun v hv => closure63 (h.quiet (Fr.refl _ _).drew) hb (hh.quiet (Fr.refl _ _).drew) i hi v hv)
  obtain ⟨b3, o3, c1, xp, xf, xt, xn, xb, xg, a8, c8, a9, c9, rfl, hb3, hcl, r1, r2, l1, l2, d0, d1, d2, d3, d4, d5⟩ := clause_cells h i hi
  have hlm := h.lm
  have e0 := row_cell h.hJ 0
  simp only [List.getElem?_cons_zero] at e0
  generalize hA : barred l (clAt j.c i) = A
  have HBB := hid (HB.out _ hA)
  clear hA HB
  rw [hcl]
  dsimp only
  clear h r1 r2 hh hcl d0 d1 d2 d3 d4
  cases hq : (xg == x) with
  | false =>
    go_enter Try.func70, Try.ntmps70
    go_wp2
    refine still_tail 15 (by kernel_rfl) (by kernel_rfl) ?_
    simp only [List.take_succ_cons, List.take_zero, List.drop_succ_cons, List.drop_zero]
    repeat still_step
    refine wpStill_nil ?_
    go_wp2
    go_ret
    exact ⟨by simp, (Fr.refl _ _).drew⟩
  | true =>
    go_enter Try.func70, Try.ntmps70
    go_wp2
    refine still_tail 15 (by kernel_rfl) (by kernel_rfl) ?_
    simp only [List.take_succ_cons, List.take_zero, List.drop_succ_cons, List.drop_zero]
    repeat still_step
    refine wpStill_nil ?_
    go_wp2_with (go_at_call 63; refine HBB.out.mono ?_; rintro e w1 ⟨rfl, f1⟩)
    go_ret
    exact ⟨by simp, (Fr.refl _ w).drew.trans f1⟩
end Go.Proofs.Ytfalhljidnpmgaa
