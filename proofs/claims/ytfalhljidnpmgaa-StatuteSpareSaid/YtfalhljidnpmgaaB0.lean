/- open, of valid rules and a valid question. No condition beside the bounds. -/
import Derived.Test.YtfalhljidnpmgaaA9
set_option linter.unusedVariables false
set_option linter.unusedSimpArgs false
namespace Go.Proofs.Ytfalhljidnpmgaa
open Go.RowKit Go.Proofs.Statute Go.Maps

theorem valid_lens {c : Rb} (h : validB c = true) : c.fcs.length ≤ 20 ∧ c.cls.length ≤ 20 ∧ ∀ x ∈ c.cls, x.needs.length ≤ 4 ∧ x.bars.length ≤ 4 := by
  simp only [validB, Bool.and_eq_true, decide_eq_true_eq, List.all_eq_true] at h
  refine ⟨h.1.1.2 |> fun _ => h.1.1.1.2, h.1.1.1.1.1, fun x hx => ?_⟩
  have := h.1.1.2 x hx
  simp only [clB, ascends, Bool.and_eq_true, decide_eq_true_eq] at this
  exact ⟨this.1.2.1, this.2.1⟩
theorem reads_ints {K : Nat → Prop} {w : World} {base n : Nat} {v : Value} {xs : List Int} (h : w.ownsRow base 3 1 v n (ints xs)) (hn : n = xs.length) (hK : ∀ k, v.ownBlock = some k → K k) : Reads K w 1 encI v xs := by
  subst hn
  exact own_reads (fun _ => rfl) (by rw [ints_flat]; exact h) hK
set_option maxRecDepth 100000 in
set_option maxHeartbeats 6400000 in
theorem open_ok {K : Nat → Prop} {w : World} {cl rl fl : Value} {ms : List CM} {c : Rb} (h : RB K w cl rl fl ms c) (q : Qn) (hv : validB c = true) (ha : asksB q = true) :
    Calls Try.prog 30 #[.agg #[cl, rl, fl], .agg (qcells q)] w (Opened w cl rl fl ms c q) := by
  have H2 : Hid (RB (fun k => k < w.heap.size) ((w.alloc (.cells #[cl, rl, fl] 34)).alloc (.cells (qcells q) 37)) cl rl fl ms c) := hid ((h.mono (fun k hk _ => hk)).fr (((Fr.refl (fun _ => False) w).alloc _).alloc _) (fun _ _ e => e))
  have HO := hid (jd_ok (q := q) hv)
  have HL := hid (valid_lens hv)
  have HLN := hid h.len
  obtain ⟨a1, c1, rfl, _⟩ := h.hc
  obtain ⟨a2, e2, rfl, _⟩ := h.hr
  obtain ⟨a3, e3, rfl, _⟩ := h.hf
  have HC := hid h.cls
  clear h
  have HA := hid (applies_ok H2.out q hv ha)
  clear hv ha
  have hjd : Hid (Opened w (.slice a1 ms.length c1) (.slice a2 c.rps.length e2) (.slice a3 c.fcs.length e3) ms c q = Opened w (.slice a1 ms.length c1) (.slice a2 c.rps.length e2) (.slice a3 c.fcs.length e3) ms c q) := hid rfl
  have HQ : ∃ qt qs qa qk, q = ⟨qt, qs, qa, qk⟩ := ⟨_, _, _, _, rfl⟩
  obtain ⟨qt, qs, qa, qk, hq⟩ := HQ
  have hqc : qcells q = #[.int .i64 qt, .int .i64 qs, .int .i64 qa, .int .i64 qk] := by rw [hq]; rfl
  rw [hqc] at HA H2 ⊢
  clear hq hqc hjd
  have hmm := @run_makeMap Try.prog
  go_enter Try.func30, Try.ntmps30
  go_wp2_with (go_at_call 22; refine HA.out.mono ?_; rintro e w1 ⟨fv, gv, rfl, o1, o2, hne, f1⟩; have r1 := f1.cells; obtain ⟨a4, c4, rfl, _⟩ := own_shape o1; obtain ⟨a5, c5, rfl, _⟩ := own_shape o2; have z1 : w.heap.size + 1 < w1.heap.size := (by have := f1.size; simp at this; omega); have O1 := hid o1; have O2 := hid o2; have F1 := hid f1; have R1 := hid (H2.out.fr f1 (fun _ _ e => e)); clear o1 o2 f1 hne)
  go_ret2
  have hsz : w.heap.size ≤ w1.heap.size := by omega
  have F2 := ((Fr.refl (fun _ => False) w1).alloc (.map #[] 0)).alloc (.cells #[.slice a1 ms.length c1, .slice a2 c.rps.length e2, .slice a3 c.fcs.length e3, .slice a4 (factsOf c q).length c4, .slice a5 (clausesOf c q).length c5, .map (some w1.heap.size)] 84)
  have F0 := (((Fr.refl (fun _ => False) w).alloc (.cells #[.slice a1 ms.length c1, .slice a2 c.rps.length e2, .slice a3 c.fcs.length e3] 34)).alloc (.cells #[.int .i64 qt, .int .i64 qs, .int .i64 qa, .int .i64 qk] 37)).trans F1.out
  refine ⟨w1.heap.size + 1, w1.heap.size, .slice a4 (factsOf c q).length c4, .slice a5 (clausesOf c q).length c5, rfl, ?_, F0.trans F2, hsz⟩
  have hm := heap_alloc_new (w1.alloc (.map #[] 0)) (.cells #[.slice a1 ms.length c1, .slice a2 c.rps.length e2, .slice a3 c.fcs.length e3, .slice a4 (factsOf c q).length c4, .slice a5 (clausesOf c q).length c5, .map (some w1.heap.size)] 84)
  rw [World.size_alloc] at hm
  exact {
    hJ := hm
    rb := (R1.out.fr F2 (fun _ _ e => e)).mono (fun k hk h => ⟨hk, by omega⟩)
    hF := (reads_ints (K := fun k => k < w1.heap.size) O1.out (nats_length _).symm (fun k hk => (own_base O1.out k hk).2)).fr F2 (fun _ _ e => e) |>.mono (fun k hk h => ⟨hk, by omega⟩)
    hG := (reads_ints (K := fun k => k < w1.heap.size) O2.out (nats_length _).symm (fun k hk => (own_base O2.out k hk).2)).fr F2 (fun _ _ e => e) |>.mono (fun k hk h => ⟨hk, by omega⟩)
    kJ := ⟨by simp, by omega⟩
    kb := fun h => h.2 rfl
    map := (Found.start w1 _).fr (S := fun _ => False) ((Fr.refl _ _).alloc _) (fun e => e)
    ok := HO.out
    inF := fun i hi => by simp only [jdOf, factsOf, List.mem_filter, List.mem_range] at hi; exact hi.1
    inG := fun i hi => by simp only [jdOf, clausesOf, List.mem_filter, List.mem_range] at hi; rw [← HLN.out]; exact hi.1
    lF := Nat.le_trans (up_len _ _) HL.out.1
    lG := Nat.le_trans (up_len _ _) HL.out.2.1
    lm := by rw [← HLN.out]; exact HL.out.2.1
    ln := fun m hm => HL.out.2.2 _ (by rw [HC.out]; exact List.mem_map_of_mem hm) }
end Go.Proofs.Ytfalhljidnpmgaa
