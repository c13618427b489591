/- Decide of rules or a question that are not valid. No condition beside the bounds. -/
import Derived.Test.YtfalhljidnpmgaaC2
set_option linter.unusedVariables false
set_option linter.unusedSimpArgs false
namespace Go.Proofs.Ytfalhljidnpmgaa
open Go.RowKit Go.Proofs.Statute Go.Maps

set_option maxRecDepth 100000 in
set_option maxHeartbeats 3200000 in
theorem decide_bad {K : Nat → Prop} {w : World} {cl rl fl : Value} {ms : List CM} {c : Rb} (h : RB K w cl rl fl ms c) (q : Qn) (hb : (validB c && asksB q) = false) :
    Calls Try.prog 12 #[.agg #[cl, rl, fl], .agg (qcells q)] w fun e w' => e = .returned (.tuple #[.bool false, .slice none 0 0, .int .i64 80]) ∧ Fr (fun _ => False) w w' := by
  have H2 : Hid (RB (fun k => k < w.heap.size) ((w.alloc (.cells #[cl, rl, fl] 34)).alloc (.cells (qcells q) 37)) cl rl fl ms c) := hid ((h.mono (fun k hk _ => hk)).fr (((Fr.refl (fun _ => False) w).alloc _).alloc _) (fun _ _ e => e))
  obtain ⟨a1, c1, rfl, _⟩ := h.hc
  obtain ⟨a2, e2, rfl, _⟩ := h.hr
  obtain ⟨a3, e3, rfl, _⟩ := h.hf
  clear h
  have HA := hid (open_bad H2.out q hb)
  clear hb H2
  obtain ⟨qt, qs, qa, qk⟩ := q
  unfold qcells at *
  dsimp only at HA ⊢
  go_enter Try.func12, Try.ntmps12
  go_wp2_with (go_at_call 30; refine HA.out.mono ?_; rintro e w1 ⟨⟨J, rfl⟩, f1⟩)
  go_ret3
  exact ⟨rfl, (((Fr.refl _ _).alloc _).alloc _).trans f1⟩
end Go.Proofs.Ytfalhljidnpmgaa
