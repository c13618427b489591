/- pick, part and Ask of the statements. No condition beside the bounds. -/
import Derived.Test.YtfalhljidnpmgaaC3
import Derived.Deep.RegionHeld
set_option linter.unusedVariables false
set_option linter.unusedSimpArgs false
namespace Go.Proofs.Ytfalhljidnpmgaa
open Go.RowKit Go.Proofs.Statute Go.Maps

def pickF (c n : Int) : Int := (if c < 0 then -(c + 1) else c) % n
theorem pickF_in (c n : Int) (h : 1 ≤ n) : 0 ≤ pickF c n ∧ pickF c n < n := ⟨Int.emod_nonneg _ (by omega), Int.emod_lt_of_pos _ (by omega)⟩
set_option maxHeartbeats 800000 in
theorem pick27 (c n : Int) (w : World) (h : I64 c) (hn : 1 ≤ n) (hn2 : n ≤ 9223372036854775807) : Calls Try.prog 27 #[.int .i64 c, .int .i64 n] w fun e w' => e = .returned (.int .i64 (pickF c n)) ∧ w = w' := by
  obtain ⟨h1, h2⟩ := h
  by_cases hc : c < 0
  · have hb : 0 ≤ -(c + 1) := by omega
    go_enter Try.func27, Try.ntmps27
    go_wp2
    go_ret
    exact ⟨by unfold pickF; rw [if_pos hc]; simp; rw [← Int.neg_tmod, Int.tmod_eq_emod_of_nonneg hb], rfl⟩
  · go_enter Try.func27, Try.ntmps27
    go_wp2
    go_ret
    exact ⟨by unfold pickF; rw [if_neg (by omega)]; rfl, rfl⟩
set_option maxHeartbeats 800000 in
theorem pick16 (c n : Int) (w : World) (h : I64 c) (hn : 1 ≤ n) (hn2 : n ≤ 9223372036854775807) : Calls Try.prog 16 #[.int .i64 c, .int .i64 n] w fun e w' => e = .returned (.int .i64 (pickF c n)) ∧ w = w' := by
  obtain ⟨h1, h2⟩ := h
  by_cases hc : c < 0
  · have hb : 0 ≤ -(c + 1) := by omega
    go_enter Try.func16, Try.ntmps16
    go_wp2
    go_ret
    exact ⟨by unfold pickF; rw [if_pos hc]; simp; rw [← Int.neg_tmod, Int.tmod_eq_emod_of_nonneg hb], rfl⟩
  · go_enter Try.func16, Try.ntmps16
    go_wp2
    go_ret
    exact ⟨by unfold pickF; rw [if_neg (by omega)]; rfl, rfl⟩
def partTo (a b : Int) : Int := pickF a 50 + 1 + pickF b 50
set_option maxHeartbeats 1600000 in
theorem part_any (a b : Int) (w : World) (ha : I64 a) (hb : I64 b) : Calls Try.prog 28 #[.int .i64 a, .int .i64 b] w fun e w' => e = .returned (.agg #[.int .i64 (pickF a 50), .int .i64 (partTo a b)]) ∧ Fr (fun _ => False) w w' := by
  have i1 := pickF_in a 50 (by omega)
  have i2 := pickF_in b 50 (by omega)
  have H1 := hid (pick27 a 50 · ha (by omega) (by omega))
  have H2 := hid (pick27 b 50 · hb (by omega) (by omega))
  unfold partTo
  generalize pickF a 50 = x at H1 i1 ⊢
  generalize pickF b 50 = y at H2 i2 ⊢
  have T1 := hid trivial
  clear ha hb
  go_enter Try.func28, Try.ntmps28
  go_wp2_with (first | (go_at_call 27; clear T1; refine (H1.out _).mono ?_; rintro e w1 ⟨rfl, rfl⟩) | (go_at_call 27; refine (H2.out _).mono ?_; rintro e w1 ⟨rfl, rfl⟩))
  refine bodyPost_ret (v := .agg #[.int .i64 x, .int .i64 (x + 1 + y)]) ?_ rfl ⟨rfl, (Fr.refl _ _).alloc _⟩
  simp [results, show Try.f28.results = #[.cell 4 48] from rfl, loadVar, go_sem, Try.isAgg48, Try.sizeOf48, asAddr, Result.andThen]
def askOf (a b c d : Int) : Qn := ⟨pickF a 3, pickF b 8, pickF c 100, pickF d 100⟩
theorem ask_valid (a b c d : Int) : asksB (askOf a b c d) = true := by
  have h1 := pickF_in a 3 (by omega)
  have h2 := pickF_in b 8 (by omega)
  have h3 := pickF_in c 100 (by omega)
  have h4 := pickF_in d 100 (by omega)
  unfold askOf
  generalize pickF a 3 = x1 at *
  generalize pickF b 8 = x2 at *
  generalize pickF c 100 = x3 at *
  generalize pickF d 100 = x4 at *
  simp only [asksB, secB, inB, Bool.and_eq_true, decide_eq_true_eq]
  omega
set_option maxRecDepth 100000 in
set_option maxHeartbeats 3200000 in
theorem ask_any (a b c d : Int) (w : World) (ha : I64 a) (hb : I64 b) (hc : I64 c) (hd : I64 d) : Calls Try.prog 11 #[.agg #[.int .i64 a, .int .i64 b, .int .i64 c, .int .i64 d]] w fun e w' => e = .returned (.agg (qcells (askOf a b c d))) ∧ Fr (fun _ => False) w w' := by
  have H1 := hid (pick27 a 3 · ha (by omega) (by omega))
  have H2 := hid (pick27 b 8 · hb (by omega) (by omega))
  have H3 := hid (pick27 c 100 · hc (by omega) (by omega))
  have H4 := hid (pick27 d 100 · hd (by omega) (by omega))
  unfold askOf qcells
  dsimp only
  generalize pickF a 3 = x1 at H1 ⊢
  generalize pickF b 8 = x2 at H2 ⊢
  generalize pickF c 100 = x3 at H3 ⊢
  generalize pickF d 100 = x4 at H4 ⊢
  have T1 := hid trivial
  have T2 := hid trivial
  have T3 := hid trivial
  clear ha hb hc hd
  go_enter Try.func11, Try.ntmps11
  go_wp2
  have a0 := row_cell (w := (w.alloc (.cells #[.int .i64 a, .int .i64 b, .int .i64 c, .int .i64 d] 26)).alloc (.cells #[.int .i64 0, .int .i64 0, .int .i64 0, .int .i64 0] 37)) (g := w.heap.size) (l := [.int .i64 a, .int .i64 b, .int .i64 c, .int .i64 d]) (t := 26) ((Below.heap_alloc _ _ _ (by simp)).trans (heap_alloc_new w _))
  have b0 := a0 0
  have b1 := a0 1
  have b2 := a0 2
  have b3 := a0 3
  simp only [List.getElem?_cons_zero, List.getElem?_cons_succ] at b0 b1 b2 b3
  clear a0
  go_region_held (fun w' : World => w'.cell? ⟨w.heap.size, 0, none⟩ = some (.int .i64 a) ∧ w'.cell? ⟨w.heap.size, 1, none⟩ = some (.int .i64 b) ∧ w'.cell? ⟨w.heap.size, 2, none⟩ = some (.int .i64 c) ∧ w'.cell? ⟨w.heap.size, 3, none⟩ = some (.int .i64 d)) (first | assumption | exact ⟨b0, b1, b2, b3⟩ | go_keep) (first | (go_at_call 27; clear T1; refine (H1.out _).mono ?_; rintro e w1 ⟨rfl, rfl⟩) | (go_at_call 27; clear T2; refine (H2.out _).mono ?_; rintro e w1 ⟨rfl, rfl⟩) | (go_at_call 27; clear T3; refine (H3.out _).mono ?_; rintro e w1 ⟨rfl, rfl⟩) | (go_at_call 27; refine (H4.out _).mono ?_; rintro e w1 ⟨rfl, rfl⟩))
  all_goals
    go_wp2
    refine bodyPost_ret (v := .agg #[.int .i64 x1, .int .i64 x2, .int .i64 x3, .int .i64 x4]) ?_ rfl ⟨rfl, (((Fr.refl _ _).alloc _).alloc _).drew⟩
    simp [results, show Try.f11.results = #[.cell 2 37] from rfl, loadVar, go_sem, Try.isAgg37, Try.sizeOf37, asAddr, Result.andThen]
end Go.Proofs.Ytfalhljidnpmgaa
