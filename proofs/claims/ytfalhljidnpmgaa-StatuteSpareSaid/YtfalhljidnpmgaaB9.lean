/- Check. No condition beside the bounds. -/
import Derived.Test.YtfalhljidnpmgaaB8
set_option linter.unusedVariables false
set_option linter.unusedSimpArgs false
namespace Go.Proofs.Ytfalhljidnpmgaa
open Go.RowKit Go.Proofs.Statute Go.Maps

def checkB (c : Rb) (q : Qn) (h : Bool) (l : List Fnd) : Bool := validB c && asksB q && (jdOf c q).proves q.says h l
set_option maxRecDepth 100000 in
set_option maxHeartbeats 6400000 in
theorem check_any {K K2 : Nat → Prop} {w : World} {cl rl fl lv : Value} {ms : List CM} {c : Rb} {l : List Fnd} (h : RB K w cl rl fl ms c) (q : Qn) (hh : Bool) (hr : Reads K2 w 4 encD lv l) (hl : l.length ≤ 1000000) :
    Calls Try.prog 13 #[.agg #[cl, rl, fl], .agg (qcells q), .bool hh, lv] w (ProvesR w (checkB c q hh l)) := by
  have H2 : Hid (RB (fun k => k < w.heap.size) ((w.alloc (.cells #[cl, rl, fl] 34)).alloc (.cells (qcells q) 37)) cl rl fl ms c) := hid ((h.mono (fun k hk _ => hk)).fr (((Fr.refl (fun _ => False) w).alloc _).alloc _) (fun _ _ e => e))
  have F0 : Hid (Fr (fun _ => False) w ((w.alloc (.cells #[cl, rl, fl] 34)).alloc (.cells (qcells q) 37))) := hid (((Fr.refl _ _).alloc _).alloc _)
  have HR := hid hr
  obtain ⟨al, cc, rfl, _⟩ := hr
  obtain ⟨a1, c1, rfl, _⟩ := h.hc
  obtain ⟨a2, e2, rfl, _⟩ := h.hr
  obtain ⟨a3, e3, rfl, _⟩ := h.hf
  clear h
  cases hb : validB c && asksB q with
  | false =>
    have HV : Hid (checkB c q hh l = false) := hid (by unfold checkB; rw [hb]; rfl)
    rw [HV.out]
    have HA := hid (open_bad H2.out q hb)
    clear hb H2
    obtain ⟨qt, qs, qa, qk⟩ := q
    unfold qcells at *
    dsimp only at HA F0 ⊢
    go_enter Try.func13, Try.ntmps13
    go_wp2_with (go_at_call 30; refine HA.out.mono ?_; rintro e w1 ⟨⟨J, rfl⟩, f1⟩; have r1 := f1.cells; have z1 : w.heap.size + 1 < w1.heap.size := (by have := f1.size; simp at this; omega))
    go_ret
    exact ⟨by simp, F0.out.trans f1⟩
  | true =>
    have HV : Hid (checkB c q hh l = (jdOf c q).proves q.says hh l) := hid (by unfold checkB; rw [hb]; rfl)
    rw [HV.out]
    have hbb : validB c = true ∧ asksB q = true := by simpa using hb
    have HA := hid (open_ok H2.out q hbb.1 hbb.2)
    have HQ : Hid (qcells q = #[.int .i64 q.thing, .int .i64 q.says, .int .i64 q.sec, .int .i64 q.known]) := hid rfl
    rw [HQ.out] at HA F0 ⊢
    clear hb hbb H2 HV HQ
    have hq1 : ∀ (w1 : World), Fr (fun _ => False) ((w.alloc (.cells #[.slice a1 ms.length c1, .slice a2 c.rps.length e2, .slice a3 c.fcs.length e3] 34)).alloc (.cells #[.int .i64 q.thing, .int .i64 q.says, .int .i64 q.sec, .int .i64 q.known] 37)) w1 → w1.cell? ⟨w.heap.size + 1, 1, none⟩ = some (.int .i64 q.says) := fun w1 f1 => by
      rw [f1.cells _ _ (by simp)]
      simp
    have HQ1 := hid hq1
    clear hq1
    go_enter Try.func13, Try.ntmps13
    go_wp2_with (first | (go_at_call 30; refine HA.out.mono ?_; rintro e w1 ⟨J, b, fv, gv, rfl, hj, f1, hb⟩; have x1 := HQ1.out w1 f1; have HJ := hid hj; have F1 := hid f1; clear hj f1 hb) | (go_at_call 34; refine (proves_any HJ.out ((HR.out.fr F0.out (fun _ _ e => e)).fr F1.out (fun _ _ e => e)) hl q.says hh).mono ?_; rintro e w2 ⟨rfl, f2⟩))
    go_ret
    exact ⟨by simp, (F0.out.trans F1.out).trans f2⟩
end Go.Proofs.Ytfalhljidnpmgaa
