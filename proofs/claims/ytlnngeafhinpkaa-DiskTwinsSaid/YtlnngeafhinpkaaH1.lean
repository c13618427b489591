/- DiskTwins answers true. No condition. -/
import Derived.Test.YtlnngeafhinpkaaH0
import Derived.Deep.RegionHeld
set_option linter.unusedVariables false
set_option linter.unusedSimpArgs false
namespace Go.Proofs.Ytlnngeafhinpkaa
open Go.RowKit

theorem Su.power {n : Nat} {s : St} {j : Nat} (h : Su n s j) : Su n { off := false, left := 0, dur := s.dur, vis := s.dur, pend := [] } j := ⟨rfl, rfl, rfl, by simp [Fits], by simp⟩
theorem Su.up {n : Nat} {s : St} {j : Nat} (h : Su n s j) : Su n s (j + 1) := ⟨h.off, h.left, h.vis, h.fit, Nat.le_succ_of_le h.pl⟩

set_option maxRecDepth 100000 in
set_option maxHeartbeats 6400000 in
theorem twins_any (size : Int) (a : Option Addr) (len c : Nat) (xs : List WP) (w : World) (h1 : -9223372036854775808 ≤ size) (h2 : size ≤ 9223372036854775807)
    (hx : Elems w.heap.size w 3 RWP (.slice a len c) xs) : Calls Try.prog 11 #[.int .i64 size, .slice a len c] w (True1 w) := by
  have HX := hid hx
  obtain ⟨a', c', he, hlc, hcm, hrow⟩ := hx
  clear hrow
  injection he with ha hlen hcap
  subst ha hlen hcap
  have hp := pickF_in size 100 (by omega)
  obtain ⟨n', hn'⟩ := Int.eq_ofNat_of_zero_le hp.1
  have HPK := hid (pick_any size 100 · h1 h2 (by omega) (by omega))
  rw [hn'] at HPK hp
  obtain ⟨n, hn⟩ : ∃ n : Nat, n = n' + 1 := ⟨_, rfl⟩
  have HN : Hid (1 + (n' : Int) = (n : Int)) := hid (by omega)
  have hn1 : 1 ≤ n := by omega
  have hn2 : n ≤ 101 := by omega
  have hn0 : n' ≤ 100 := by omega
  clear hp hn' hn
  have T1 := hid trivial
  have T2 := hid trivial
  have T4 := hid trivial
  have T5 := hid trivial
  go_enter Try.func11, Try.ntmps11
  go_wp2_with (first | (go_at_call 12; refine (sane_any _).mono ?_; rintro e w1 ⟨rfl, b1⟩) | (go_at_call 15; refine (HPK.out _).mono ?_; rintro e w1' ⟨rfl, rfl⟩; clear HPK) | (go_at_call 13; clear T1; rw [HN.out]; refine (new_ok n hn1 (by omega) w1).mono ?_; rintro e w2 ⟨B1, bd1, bv1, rfl, k1⟩; have N1 : Hid (NewAt n w1 B1 bd1 bv1 w2) := hid k1; clear k1) | (go_at_call 13; clear T2; refine (new_ok n hn1 (by omega) w2).mono ?_; rintro e w3 ⟨B2, bd2, bv2, rfl, k2⟩; have N2 : Hid (NewAt n w2 B2 bd2 bv2 w3) := hid k2; clear k2) | (go_at_call 13; refine (new_ok n hn1 (by omega) w3).mono ?_; rintro e w4 ⟨B3, bd3, bv3, rfl, k3⟩; have N3 : Hid (NewAt n w3 B3 bd3 bv3 w4) := hid k3; clear k3))
  have HS := hid (T3.start (Fr.of_below b1) N1.out N2.out N3.out)
  clear b1 N1 N2 N3
  go_loopw [12] (fun i wr => ∃ (j : Nat) (s s2 : St), j ≤ xs.length ∧ j ≤ 30 ∧ i = .int .i64 j ∧ Hid (T3 (fun _ => False) w wr ⟨B1, bd1, bv1⟩ ⟨B2, bd2, bv2⟩ ⟨B3, bd3, bv3⟩ n s s2 s) ∧ Hid (Su n s j) ∧ Hid (Su n s2 j)) (fun i _ => xs.length - (intOf i).toNat)
  case atStart => exact ⟨0, fresh n, fresh n, by omega, by omega, rfl, HS, hid (Su.start n), hid (Su.start n)⟩
  case round =>
    clear HS
    obtain ⟨j, s, s2, hj, hj30, rfl, hLo, hS1, hS2⟩ := hrel
    by_cases hlt : j < xs.length ∧ j < 30
    · obtain ⟨hl1, hl2⟩ := hlt
      obtain ⟨bb, o, ha, hbb, c0, c1, c2, r1, r2, r3⟩ := writes_at HX.out hLo.out.fr (Nat.le_refl _) j hl1
      subst ha
      generalize xs[j] = x at c0 c1 c2 r1 r2 r3
      obtain ⟨xo, xstr, xy⟩ := x
      dsimp only at c0 c1 c2 r1 r2 r3
      obtain ⟨P, str, hPf, hcall⟩ := fits_call xo xstr xy n r1 r2 r3 (by omega)
      have HC := hid hcall
      have HP := hid hPf
      have hP2 : P ≤ 101 := by omega
      clear hcall hPf r1 r2 r3
      by_cases hodd : j % 2 = 1
      · have ho : ((j : Int) % 2 == 1) = true := by simp; omega
        have HO := hid hodd
        clear hodd
        have HW := hid (hS2.out.wrote P str HP.out)
        have HA : Hid (∀ Q wq, Lh Q w wq B2 bd2 bv2 n s2 → Calls Try.prog 21 #[.pointer (some ⟨B2, 0, none⟩), .int .i64 P, .string str] wq (LhR Q w wq B2 bd2 bv2 n (.int .i64 0) (wrote s2 P str))) := hid (fun Q wq hq => lh_write hq P str (by have := hS2.out.left; omega) hS2.out.off (by have := hS2.out.pl; omega) HP.out)
        have h7 : ((P : Int) % 7 == 3) = true ∨ ((P : Int) % 7 == 3) = false := by cases (P : Int) % 7 == 3 <;> simp
        cases xy with
        | false =>
          rcases h7 with h7 | h7
          · go_wp2_with (first | (go_at_call 26; refine (HC.out _).mono ?_; rintro e w3 ⟨rfl, rfl⟩; clear c0 c1 c2) | (go_at_call 21; refine (t3_of2 (hLo.out.box3 _ _ _) (fun Q hq => HA.out Q _ hq)).mono ?_; rintro e w5 ⟨rfl, l5, k5⟩; obtain ⟨d0, d1, d2⟩ := box_cells (k5 _ rfl) (box3_row _ _ _ _); have L5 := hid l5; clear l5 k5) | (go_at_call 25; refine (t3_of2 L5.out (fun Q hq => lh_crash hq HW.out.fit (by have := HW.out.pl; omega) _ [] ⟨none, 0, rfl, fun h => absurd h (by simp)⟩ (by simp) 1 (by omega) (by omega))).mono ?_; rw [crash_none]; rintro e w7 ⟨rfl, l7, k7⟩; have L7 := hid l7; clear l7 k7 L5))
            go_roundw
            case rel => exact ⟨j + 1, _, _, by omega, by omega, by go_num, hid (L7.out.less (fun _ h => h.elim)), hid hS1.out.up, hid HW.out.power⟩
            case measure => simp [intOf]; omega

          · go_wp2_with (first | (go_at_call 26; refine (HC.out _).mono ?_; rintro e w3 ⟨rfl, rfl⟩; clear c0 c1 c2) | (go_at_call 21; refine (t3_of2 (hLo.out.box3 _ _ _) (fun Q hq => HA.out Q _ hq)).mono ?_; rintro e w5 ⟨rfl, l5, k5⟩; obtain ⟨d0, d1, d2⟩ := box_cells (k5 _ rfl) (box3_row _ _ _ _); have L5 := hid l5; clear l5 k5))
            go_roundw
            case rel => exact ⟨j + 1, _, _, by omega, by omega, by go_num, hid (L5.out.less (fun _ h => h.elim)), hid hS1.out.up, hid HW.out⟩
            case measure => simp [intOf]; omega

        | true =>
          have HSY := hid HW.out.sync
          rcases h7 with h7 | h7
          · go_wp2_with (first | (go_at_call 26; refine (HC.out _).mono ?_; rintro e w3 ⟨rfl, rfl⟩; clear c0 c1 c2) | (go_at_call 21; refine (t3_of2 (hLo.out.box3 _ _ _) (fun Q hq => HA.out Q _ hq)).mono ?_; rintro e w5 ⟨rfl, l5, k5⟩; obtain ⟨d0, d1, d2⟩ := box_cells (k5 _ rfl) (box3_row _ _ _ _); have L5 := hid l5; clear l5 k5) | (go_at_call 23; refine (t3_of2 L5.out (fun Q hq => lh_sync hq)).mono ?_; rw [HSY.out.1]; rintro e w6 ⟨rfl, l6, k6⟩; have kk := cells_of (k6 _ rfl); rw [← kk 0] at d0; have L6 := hid l6; clear l6 k6 kk L5 d1 d2) | (go_at_call 25; refine (t3_of2 L6.out (fun Q hq => lh_crash hq HSY.out.2.fit (by have := HSY.out.2.pl; omega) _ [] ⟨none, 0, rfl, fun h => absurd h (by simp)⟩ (by simp) 1 (by omega) (by omega))).mono ?_; rw [crash_none]; rintro e w7 ⟨rfl, l7, k7⟩; have L7 := hid l7; clear l7 k7 L6))
            go_roundw
            case rel => exact ⟨j + 1, _, _, by omega, by omega, by go_num, hid (L7.out.less (fun _ h => h.elim)), hid hS1.out.up, hid HSY.out.2.power⟩
            case measure => simp [intOf]; omega

          · go_wp2_with (first | (go_at_call 26; refine (HC.out _).mono ?_; rintro e w3 ⟨rfl, rfl⟩; clear c0 c1 c2) | (go_at_call 21; refine (t3_of2 (hLo.out.box3 _ _ _) (fun Q hq => HA.out Q _ hq)).mono ?_; rintro e w5 ⟨rfl, l5, k5⟩; obtain ⟨d0, d1, d2⟩ := box_cells (k5 _ rfl) (box3_row _ _ _ _); have L5 := hid l5; clear l5 k5) | (go_at_call 23; refine (t3_of2 L5.out (fun Q hq => lh_sync hq)).mono ?_; rw [HSY.out.1]; rintro e w6 ⟨rfl, l6, k6⟩; have kk := cells_of (k6 _ rfl); rw [← kk 0] at d0; have L6 := hid l6; clear l6 k6 kk L5 d1 d2))
            go_roundw
            case rel => exact ⟨j + 1, _, _, by omega, by omega, by go_num, hid (L6.out.less (Y := fun _ => False) (fun _ h => h.elim)), hid hS1.out.up, hid HSY.out.2⟩
            case measure => simp [intOf]; omega

      · have ho : ((j : Int) % 2 == 1) = false := by simp; omega
        have HO := hid hodd
        clear hodd
        have HW := hid (hS1.out.wrote P str HP.out)
        have HSY := hid HW.out.sync
        have HA : Hid (∀ Q wq B bd bv, Lh Q w wq B bd bv n s → Calls Try.prog 21 #[.pointer (some ⟨B, 0, none⟩), .int .i64 P, .string str] wq (LhR Q w wq B bd bv n (.int .i64 0) (wrote s P str))) := hid (fun Q wq B bd bv hq => lh_write hq P str (by have := hS1.out.left; omega) hS1.out.off (by have := hS1.out.pl; omega) HP.out)
        have HB : Hid (∀ y : Bool, (((wr.alloc (.cells #[.int .i64 P, .string str, .bool y] 53)).alloc (.cells #[.int .i64 P, .string str, .bool y] 53)).alloc (.cells #[.int .i64 P, .string str, .bool y] 53)).drew.cell? ⟨wr.heap.size + 2, 0, none⟩ = some (.int .i64 P) ∧ (((wr.alloc (.cells #[.int .i64 P, .string str, .bool y] 53)).alloc (.cells #[.int .i64 P, .string str, .bool y] 53)).alloc (.cells #[.int .i64 P, .string str, .bool y] 53)).drew.cell? ⟨wr.heap.size + 2, 1, none⟩ = some (.string str) ∧ (((wr.alloc (.cells #[.int .i64 P, .string str, .bool y] 53)).alloc (.cells #[.int .i64 P, .string str, .bool y] 53)).alloc (.cells #[.int .i64 P, .string str, .bool y] 53)).drew.cell? ⟨wr.heap.size + 2, 2, none⟩ = some (.bool y)) := hid (fun y => box_cells (a := (((wr.alloc (.cells #[.int .i64 P, .string str, .bool y] 53)).alloc (.cells #[.int .i64 P, .string str, .bool y] 53)).alloc (.cells #[.int .i64 P, .string str, .bool y] 53))) rfl (box3_row _ _ _ _))
        cases xy with
        | false =>
          have h0 := HB.out false
          go_wp2_with (first | (go_at_call 26; refine (HC.out _).mono ?_; rintro e w3 ⟨rfl, rfl⟩; clear c0 c1 c2))
          first
            | (go_region_held (fun w' => w'.cell? ⟨wr.heap.size + 2, 0, none⟩ = some (.int .i64 P) ∧ w'.cell? ⟨wr.heap.size + 2, 1, none⟩ = some (.string str) ∧ w'.cell? ⟨wr.heap.size + 2, 2, none⟩ = some (.bool false)) (first | assumption | exact ⟨hB.out 0, hB.out 1, hB.out 2⟩ | go_keep) (first | (go_at_call 21; refine (t3_of (hLo.out.box3 _ _ _).drew (fun Q hq => HA.out Q _ _ _ _ hq)).mono ?_; rintro e w5 ⟨rfl, l5, k5⟩; have d5 := box_cells (k5 _ rfl) (box3_row _ _ _ _); have L5 := hid l5; clear l5 k5 hLo) | (go_at_call 21; refine (t3_of3 L5.out (fun Q hq => HA.out Q _ _ _ _ hq)).mono ?_; rintro e w6 ⟨rfl, l6, k6⟩; have kk := cells_of (k6 _ rfl); have d6 : _ ∧ _ ∧ _ := ⟨(kk 0).trans d5.1, (kk 1).trans d5.2.1, (kk 2).trans d5.2.2⟩; have L6 := hid l6; clear l6 k6 kk L5)))
            | fail
          all_goals
            have HL6 := hid (L6.out.less (Y := fun _ => False) (fun _ h => h.elim))
            go_wp2
            go_roundw
            case rel => exact ⟨j + 1, _, _, by omega, by omega, by go_num, HL6, HW, hid hS2.out.up⟩
            case measure => simp [intOf]; omega
        | true =>
          have h0 := HB.out true
          go_wp2_with (first | (go_at_call 26; refine (HC.out _).mono ?_; rintro e w3 ⟨rfl, rfl⟩; clear c0 c1 c2))
          first
            | (go_region_held (fun w' => w'.cell? ⟨wr.heap.size + 2, 0, none⟩ = some (.int .i64 P) ∧ w'.cell? ⟨wr.heap.size + 2, 1, none⟩ = some (.string str) ∧ w'.cell? ⟨wr.heap.size + 2, 2, none⟩ = some (.bool true)) (first | assumption | exact ⟨hB.out 0, hB.out 1, hB.out 2⟩ | go_keep) (first | (go_at_call 21; refine (t3_of (hLo.out.box3 _ _ _).drew (fun Q hq => HA.out Q _ _ _ _ hq)).mono ?_; rintro e w5 ⟨rfl, l5, k5⟩; have d5 := box_cells (k5 _ rfl) (box3_row _ _ _ _); have L5 := hid l5; clear l5 k5 hLo) | (go_at_call 21; refine (t3_of3 L5.out (fun Q hq => HA.out Q _ _ _ _ hq)).mono ?_; rintro e w6 ⟨rfl, l6, k6⟩; have kk := cells_of (k6 _ rfl); have d6 : _ ∧ _ ∧ _ := ⟨(kk 0).trans d5.1, (kk 1).trans d5.2.1, (kk 2).trans d5.2.2⟩; have L6 := hid l6; clear l6 k6 kk L5) | (go_at_call 23; refine (t3_of L6.out (fun Q hq => lh_sync hq)).mono ?_; rw [HSY.out.1]; rintro e w7 ⟨rfl, l7, k7⟩; have kk := cells_of (k7 _ rfl); have d7 : _ ∧ _ ∧ _ := ⟨(kk 0).trans d6.1, (kk 1).trans d6.2.1, (kk 2).trans d6.2.2⟩; have L7 := hid l7; clear l7 k7 kk L6) | (go_at_call 23; refine (t3_of3 L7.out (fun Q hq => lh_sync hq)).mono ?_; rw [HSY.out.1]; rintro e w8 ⟨rfl, l8, k8⟩; have kk := cells_of (k8 _ rfl); have d8 : _ ∧ _ ∧ _ := ⟨(kk 0).trans d7.1, (kk 1).trans d7.2.1, (kk 2).trans d7.2.2⟩; have L8 := hid l8; clear l8 k8 kk L7)))
            | fail
          all_goals
            have HL8 := hid (L8.out.less (Y := fun _ => False) (fun _ h => h.elim))
            go_wp2
            go_roundw
            case rel => exact ⟨j + 1, _, _, by omega, by omega, by go_num, HL8, hid HSY.out.2, hid hS2.out.up⟩
            case measure => simp [intOf]; omega
    · have hcase : (j < xs.length ∧ ¬ j < 30) ∨ ¬ j < xs.length := by omega
      clear hlt
      have HO1 := hid hS1.out.off
      rcases hcase with ⟨hl3, hl4⟩ | hl3
      all_goals
        go_wp2_with (first | (go_at_call 14; clear T4; refine (lh_read_all hLo.out.lh1 HO1.out).mono ?_; rintro e w4 ⟨rfl, rfl⟩) | (go_at_call 14; refine (lh_read_all hLo.out.turn.turn.lh1 HO1.out).mono ?_; rintro e w4 ⟨rfl, rfl⟩) | (go_at_call 17; clear T5; refine (held_pending hLo.out.lh1.held).mono ?_; rintro e w4 ⟨rfl, rfl⟩) | (go_at_call 17; refine (held_pending hLo.out.turn.turn.lh1.held).mono ?_; rintro e w4 ⟨rfl, rfl⟩))
        go_ret
        exact ⟨by simp, hLo.out.fr.below (Nat.le_refl _) (fun _ h => h)⟩
end Go.Proofs.Ytlnngeafhinpkaa
