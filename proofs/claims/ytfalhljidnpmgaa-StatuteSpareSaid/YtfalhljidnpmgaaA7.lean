/- Which facts and which clauses apply. No condition beside the bounds. -/
import Derived.Test.YtfalhljidnpmgaaA6
set_option linter.unusedVariables false
set_option linter.unusedSimpArgs false
namespace Go.Proofs.Ytfalhljidnpmgaa
open Go.RowKit Go.Proofs.Statute

def S64 (x : Int) : Prop := -9223372036854775807 ≤ x ∧ x ≤ 9223372036854775807
def qcells (q : Qn) : Array Value := #[.int .i64 q.thing, .int .i64 q.says, .int .i64 q.sec, .int .i64 q.known]

set_option maxRecDepth 100000 in
set_option maxHeartbeats 6400000 in
theorem states_any (x : Fc) (q : Qn) (w : World) (h1 : S64 x.st) (h2 : S64 x.kt) :
    Calls Try.prog 36 #[.agg (encF x).toArray, .agg (qcells q)] w fun e w' => e = .returned (.bool (statesB q x)) ∧ Fr (fun _ => False) w w' := by
  obtain ⟨xt, xs, sf, st, kf, kt⟩ := x
  obtain ⟨qt, qs, qa, qk⟩ := q
  dsimp only at h1 h2
  unfold encF statesB qcells
  dsimp only
  have H1 := hid h1
  have H2 := hid h2
  clear h1 h2
  generalize hB : hasB sf st qa = B
  generalize hC : hasB kf kt qk = C
  have HB := hid hB
  have HC := hid hC
  clear hB hC
  have T1 := hid trivial
  cases hA : (xt == qt) with
  | false =>
    go_enter Try.func36, Try.ntmps36
    go_wp2
    go_ret
    exact ⟨by simp, ((Fr.refl _ _).alloc _).alloc _⟩
  | true =>
    cases B with
    | false =>
      go_enter Try.func36, Try.ntmps36
      go_wp2_with (first | (go_at_call 52; clear T1; refine (has_b _ _ _ _ _ HB.out H1.out).mono ?_; rintro e w1 ⟨rfl, f1⟩; have r1 := f1.cells; have z1 : w.heap.size + 1 < w1.heap.size := by have := f1.size; simp at this; omega))
      go_ret
      exact ⟨by simp, (((Fr.refl _ _).alloc _).alloc _).trans f1⟩
    | true =>
      cases C with
      | false =>
        go_enter Try.func36, Try.ntmps36
        go_wp2_with (first | (go_at_call 52; clear T1; refine (has_b _ _ _ _ _ HB.out H1.out).mono ?_; rintro e w1 ⟨rfl, f1⟩; have r1 := f1.cells; have z1 : w.heap.size + 1 < w1.heap.size := by have := f1.size; simp at this; omega) | (go_at_call 52; refine (has_b _ _ _ _ _ HC.out H2.out).mono ?_; rintro e w2 ⟨rfl, f2⟩))
        go_ret
        exact ⟨by simp, ((((Fr.refl _ _).alloc _).alloc _).trans f1).trans f2⟩
      | true =>
        go_enter Try.func36, Try.ntmps36
        go_wp2_with (first | (go_at_call 52; clear T1; refine (has_b _ _ _ _ _ HB.out H1.out).mono ?_; rintro e w1 ⟨rfl, f1⟩; have r1 := f1.cells; have z1 : w.heap.size + 1 < w1.heap.size := by have := f1.size; simp at this; omega) | (go_at_call 52; refine (has_b _ _ _ _ _ HC.out H2.out).mono ?_; rintro e w2 ⟨rfl, f2⟩))
        go_ret
        exact ⟨by simp, ((((Fr.refl _ _).alloc _).alloc _).trans f1).trans f2⟩

theorem alloc4_0 (w : World) (a b c d : Obj) : ((((w.alloc a).alloc b).alloc c).alloc d).heap[w.heap.size]? = some a := by
  rw [Below.heap_alloc _ _ _ (by simp <;> omega), Below.heap_alloc _ _ _ (by simp <;> omega), Below.heap_alloc _ _ _ (by simp)]
  exact heap_alloc_new w a
theorem alloc4_1 (w : World) (a b c d : Obj) : ((((w.alloc a).alloc b).alloc c).alloc d).heap[w.heap.size + 1]? = some b := by
  rw [Below.heap_alloc _ _ _ (by simp <;> omega), Below.heap_alloc _ _ _ (by simp)]
  have := heap_alloc_new (w.alloc a) b
  simpa using this
theorem alloc4_2 (w : World) (a b c d : Obj) : ((((w.alloc a).alloc b).alloc c).alloc d).heap[w.heap.size + 2]? = some c := by
  rw [Below.heap_alloc _ _ _ (by simp)]
  have := heap_alloc_new ((w.alloc a).alloc b) c
  simpa using this
def repB (q : Qn) (i : Int) (r : Rp) : Bool := r.cl == i && decide (r.pub ≤ q.known) && decide (r.fr ≤ q.sec)
set_option maxRecDepth 100000 in
set_option maxHeartbeats 6400000 in
theorem closure53 (x : Rp) (q : Qn) (i : Int) (bi bq : Nat) (w : World) (hi : w.cell? ⟨bi, 0, none⟩ = some (.int .i64 i)) (hq : w.heap[bq]? = some (.cells (qcells q) 37 (0, 0))) :
    Calls Try.prog 53 #[.agg (encR x).toArray, .pointer (some ⟨bi, 0, none⟩), .pointer (some ⟨bq, 0, none⟩)] w fun e w' => e = .returned (.bool (repB q i x)) ∧ Fr (fun _ => False) w w' := by
  obtain ⟨xc, xp, xf⟩ := x
  obtain ⟨qt, qs, qa, qk⟩ := q
  unfold encR repB
  dsimp only
  have b1 := World.block_lt_of_cell? w _ hi
  have b2 := row_lt hq
  dsimp only at b1
  have q2 : w.cell? ⟨bq, 2, none⟩ = some (.int .i64 qa) := by rw [cell_of_row _ _ _ _ _ _ hq]; rfl
  have q3 : w.cell? ⟨bq, 3, none⟩ = some (.int .i64 qk) := by rw [cell_of_row _ _ _ _ _ _ hq]; rfl
  clear hq
  cases hA : (xc == i) with
  | false =>
    go_enter Try.func53, Try.ntmps53
    go_wp2
    go_ret
    exact ⟨by simp, (Fr.refl _ _).alloc _⟩
  | true =>
    by_cases hB : xp ≤ qk
    · by_cases hC : xf ≤ qa
      · go_enter Try.func53, Try.ntmps53
        go_wp2
        go_ret
        exact ⟨by simp [hB, hC], (Fr.refl _ _).alloc _⟩
      · go_enter Try.func53, Try.ntmps53
        go_wp2
        go_ret
        exact ⟨by simp [hB, hC], (Fr.refl _ _).alloc _⟩
    · go_enter Try.func53, Try.ntmps53
      go_wp2
      go_ret
      exact ⟨by simp; omega, (Fr.refl _ _).alloc _⟩
theorem enters53 : ∀ args w, (callFunc 53 args).run Try.prog w = .ok (.enter 53 args) w := enters_of Try.func53 (by kernel_rfl) rfl
theorem call44q {K : Nat → Prop} {w : World} {cl rl fl : Value} {ms : List CM} {c : Rb} (h : RB K w cl rl fl ms c) (q : Qn) (i : Int) (bi bq : Nat) (hi : w.cell? ⟨bi, 0, none⟩ = some (.int .i64 i)) (hq : w.heap[bq]? = some (.cells (qcells q) 37 (0, 0))) (b : Bool) (hb : c.rps.any (repB q i) = b) :
    Calls Try.prog 44 #[rl, .func (.func 53) #[] #[.pointer (some ⟨bi, 0, none⟩), .pointer (some ⟨bq, 0, none⟩)]] w fun e w' => e = .returned (.bool b) ∧ Fr (fun _ => False) w w' := by
  subst hb
  refine anyR (K := K) (repB q i) 53 #[] #[.pointer (some ⟨bi, 0, none⟩), .pointer (some ⟨bq, 0, none⟩)] enters53 rl c.rps w h.l2 h.hr ?_
  intro j hj W hf
  exact closure53 c.rps[j] q i bi bq W ((hf.cells bi 0 (World.block_lt_of_cell? w _ hi)).trans hi) ((hf.block bq (row_lt hq) (fun e => e)).trans hq)
theorem rules_eq {c : Rb} {q : Qn} {i : Nat} {ms : List CM} (h : c.cls = ms.map CM.x) (hi : i < ms.length) : rulesB c q i = (decide (ms[i].x.pub ≤ q.known) && hasB ms[i].x.fr ms[i].x.to q.sec && !c.rps.any (repB q i)) := by
  have : clAt c i = ms[i].x := by unfold clAt; rw [h]; simp [hi]
  unfold rulesB
  rw [this]
  rfl
set_option maxRecDepth 100000 in
set_option maxHeartbeats 6400000 in
theorem rules_any {K : Nat → Prop} {w : World} {cl rl fl : Value} {ms : List CM} {c : Rb} (h : RB K w cl rl fl ms c) (q : Qn) (i : Nat) (hi : i < ms.length) (ht : S64 ms[i].x.to) :
    Calls Try.prog 37 #[.agg #[cl, rl, fl], .int .i64 i, .agg (qcells q)] w fun e w' => e = .returned (.bool (rulesB c q i)) ∧ Fr (fun _ => False) w w' := by
  rw [rules_eq h.cls hi]
  have hl1 := h.l1
  have H3 : RB (fun k => k < w.heap.size) (((w.alloc (.cells #[cl, rl, fl] 34)).alloc (.cells #[.int .i64 i] 3)).alloc (.cells (qcells q) 37)) cl rl fl ms c := (h.mono (fun k hk _ => hk)).fr ((((Fr.refl (fun _ => False) w).alloc _).alloc _).alloc _) (fun _ _ e => e)
  obtain ⟨a1, c1, rfl, hc1, hc2, h3⟩ := H3.hc
  obtain ⟨b, o, rfl, _, hbl, hx⟩ := h3 (by omega)
  have c0 := hx i hi 0 _ rfl
  have c1' := hx i hi 1 _ rfl
  have c2' := hx i hi 2 _ rfl
  have c3' := hx i hi 3 _ rfl
  have c4' := hx i hi 4 _ rfl
  have c5' := hx i hi 5 _ rfl
  rw [Nat.add_zero] at c0
  obtain ⟨a2, e2, rfl, _, _, _⟩ := H3.hr
  obtain ⟨a3, e3, rfl, _, _, _⟩ := H3.hf
  have HH := hid H3
  have HT := hid ht
  clear h3 hx H3 h ht
  have hsn : (∃ a l c, ms[i].nv = .slice a l c) ∧ ∃ a l c, ms[i].bv = .slice a l c := by
    obtain ⟨⟨a, c, e, _⟩, a', c', e', _⟩ := HH.out.hn _ (List.getElem_mem hi)
    exact ⟨⟨_, _, _, e⟩, _, _, _, e'⟩
  generalize ms[i] = m at c0 c1' c2' c3' c4' c5' HT hsn
  obtain ⟨⟨xp, xf, xt, xn, xb, xg⟩, nv, bv⟩ := m
  dsimp only at hsn
  obtain ⟨⟨a8, l8, c8, rfl⟩, a9, l9, c9, rfl⟩ := hsn
  obtain ⟨qt, qs, qa, qk⟩ := q
  unfold qcells at *
  dsimp only at c0 c1' c2' c3' c4' c5' HT
  dsimp only
  generalize hB : hasB xf xt qa = B
  generalize hC : c.rps.any (repB ⟨qt, qs, qa, qk⟩ i) = C
  have HB := hid hB
  have HC := hid hC
  clear hB hC
  by_cases hA : xp ≤ qk
  · cases B with
    | false =>
      go_enter Try.func37, Try.ntmps37
      go_wp2_with (first | (go_at_call 52; refine (has_b _ _ _ _ _ HB.out HT.out).mono ?_; rintro e w1 ⟨rfl, f1⟩; have r1 := f1.cells; have z1 : w.heap.size + 3 < w1.heap.size := by have := f1.size; simp at this; omega))
      go_ret
      exact ⟨by simp [hA], ((((Fr.refl _ _).alloc _).alloc _).alloc _ |>.alloc _).trans f1⟩
    | true =>
      cases C with
      | false =>
        go_enter Try.func37, Try.ntmps37
        go_wp2_with (first | (go_at_call 52; refine (has_b _ _ _ _ _ HB.out HT.out).mono ?_; rintro e w1 ⟨rfl, f1⟩; have r1 := f1.cells; have z1 : w.heap.size + 3 < w1.heap.size := by have := f1.size; simp at this; omega) | (go_at_call 44; (refine (call44q ((HH.out.fr ((Fr.refl (fun _ => False) _).alloc _) (fun _ _ e => e)).fr f1 (fun _ _ e => e)) ⟨qt, qs, qa, qk⟩ i (w.heap.size + 1) (w.heap.size + 2) ((f1.cells (w.heap.size + 1) 0 (by simp <;> omega)).trans (by rw [cell_of_row _ _ _ _ _ _ (alloc4_1 _ _ _ _ _)]; rfl)) ((f1.block (w.heap.size + 2) (by simp <;> omega) (fun e => e)).trans (alloc4_2 _ _ _ _ _)) _ HC.out).mono ?_); rintro e w2 ⟨rfl, f2⟩))
        go_ret
        exact ⟨by simp [hA], (((((Fr.refl _ _).alloc _).alloc _).alloc _ |>.alloc _).trans f1).trans f2⟩
      | true =>
        go_enter Try.func37, Try.ntmps37
        go_wp2_with (first | (go_at_call 52; refine (has_b _ _ _ _ _ HB.out HT.out).mono ?_; rintro e w1 ⟨rfl, f1⟩; have r1 := f1.cells; have z1 : w.heap.size + 3 < w1.heap.size := by have := f1.size; simp at this; omega) | (go_at_call 44; (refine (call44q ((HH.out.fr ((Fr.refl (fun _ => False) _).alloc _) (fun _ _ e => e)).fr f1 (fun _ _ e => e)) ⟨qt, qs, qa, qk⟩ i (w.heap.size + 1) (w.heap.size + 2) ((f1.cells (w.heap.size + 1) 0 (by simp <;> omega)).trans (by rw [cell_of_row _ _ _ _ _ _ (alloc4_1 _ _ _ _ _)]; rfl)) ((f1.block (w.heap.size + 2) (by simp <;> omega) (fun e => e)).trans (alloc4_2 _ _ _ _ _)) _ HC.out).mono ?_); rintro e w2 ⟨rfl, f2⟩))
        go_ret
        exact ⟨by simp [hA], (((((Fr.refl _ _).alloc _).alloc _).alloc _ |>.alloc _).trans f1).trans f2⟩
  · go_enter Try.func37, Try.ntmps37
    go_wp2
    go_ret
    exact ⟨by simp; omega, (((Fr.refl _ _).alloc _).alloc _).alloc _ |>.alloc _⟩
end Go.Proofs.Ytfalhljidnpmgaa
