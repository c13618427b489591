/- DiskReadsBack answers true. No condition. -/
import Derived.Test.YtlnngeafhinpkaaE3
set_option linter.unusedVariables false
set_option linter.unusedSimpArgs false
namespace Go.Proofs.Ytlnngeafhinpkaa
open Go.RowKit

theorem list_of' {P : Program} {ops : Array Oper} {rest : List Oper} {o : Oper} {a : Act} {w : World} {Q : Exit → Act → World → Prop} (hw : Region.wanted o (yielded ops a.tmps) = true) (h : o.wp P a w (wpList P ops Q rest) Q) :
    wpList P ops Q (o :: rest) a w := by
  unfold wpList
  rw [if_pos hw]
  exact .inl h

set_option maxRecDepth 100000 in
set_option maxHeartbeats 6400000 in
theorem readsBack_any (size : Int) (a : Option Addr) (len c : Nat) (xs : List WP) (w : World) (h1 : -9223372036854775808 ≤ size) (h2 : size ≤ 9223372036854775807)
    (hx : Elems w.heap.size w 3 RWP (.slice a len c) xs) : Calls Try.prog 6 #[.int .i64 size, .slice a len c] w (True1 w) := by
  have HX := hid hx
  obtain ⟨a', c', he, hlc, hcm, hrow⟩ := hx
  clear hrow
  injection he with ha hlen hcap
  subst ha hlen hcap
  have hp := pickF_in size 300 (by omega)
  obtain ⟨n', hn'⟩ := Int.eq_ofNat_of_zero_le hp.1
  have HPK := hid (pick_any size 300 · h1 h2 (by omega) (by omega))
  rw [hn'] at HPK hp
  obtain ⟨n, hn⟩ : ∃ n : Nat, n = n' + 1 := ⟨_, rfl⟩
  have HN : Hid (1 + (n' : Int) = (n : Int)) := hid (by omega)
  have hmk := run_make_row' (P := Try.prog) 40 5 (.int .u8 0) 1 rfl info5' rfl .i64 .i64 n (by omega) (by omega)
  have hn1 : 1 ≤ n := by omega
  have hn2 : n ≤ 301 := by omega
  have hn0 : n' ≤ 300 := by omega
  clear hp hn' hn
  go_enter Try.func6, Try.ntmps6
  go_wp2_with (first | (go_at_call 12; refine (sane_any _).mono ?_; rintro e w1 ⟨rfl, b1⟩) | (go_at_call 15; refine (HPK.out _).mono ?_; rintro e w1' ⟨rfl, rfl⟩) | (go_at_call 13; rw [HN.out]; refine (live_new n hn1 (by omega) w1 w.heap.size b1.size).mono ?_; rintro e w2 ⟨B, bd, bv, rfl, hL, f2, b2⟩; have HL := hid hL; clear hL))
  have HS := hid (Lo.start (Fr.of_below b1) HL.out f2)
  obtain ⟨g, hg⟩ : ∃ g, w2.heap.size = g := ⟨_, rfl⟩
  rw [hg] at HS
  rw [hg]
  clear hg b2 f2 b1 hmk HPK HL
  go_loopw [9] (fun i wr => ∃ (j : Nat) (s : St) (cur : Bs) (y : ByteArray), j ≤ xs.length ∧ j ≤ 60 ∧ i = .int .i64 j ∧ Hid (Lo (fun _ => False) w wr B bd bv n g s cur) ∧ Hid (Sy n s cur y j)) (fun i _ => xs.length - (intOf i).toNat)
  case atStart => exact ⟨0, fresh n, zeros n, _, by omega, by omega, rfl, HS, hid (Sy.start n)⟩
  case round =>
    obtain ⟨j, s, cur, y, hj, hj60, rfl, hLo, hSy⟩ := hrel
    clear HS
    have hpl : s.pend.length ≤ 60 := by have := hSy.out.pl; omega
    have hso := hSy.out.off
    have hsl := hSy.out.left
    by_cases hlt : j < xs.length ∧ j < 60
    · obtain ⟨hl1, hl2⟩ := hlt
      obtain ⟨bb, o, ha, hbb, c0, c1, c2, r1, r2, r3⟩ := writes_at HX.out hLo.out.fr (Nat.le_refl _) j hl1
      subst ha
      generalize xs[j] = x at c0 c1 c2 r1 r2 r3
      obtain ⟨xo, xstr, xy⟩ := x
      dsimp only at c0 c1 c2 r1 r2 r3
      obtain ⟨P, str, hPf, hcall⟩ := fits_call xo xstr xy n r1 r2 r3 (by omega)
      have HC := hid hcall
      have HP := hid hPf
      have HSW := hid (hSy.out.wrote P str hPf)
      have HSL : Hid (0 ≤ s.left ∧ s.left ≤ 9223372036854775807) := hid (by omega)
      clear hcall hPf r1 r2 r3
      have HRD : Hid (∀ (w' : World) (s' : St) (y : ByteArray), Lo (fun k => k = wr.heap.size + 2) w w' B bd bv n g s' (put cur P str.data.toList) → Sy n s' (put cur P str.data.toList) y (j + 1) → readS s' n 0 n = (⟨(put cur P str.data.toList).toArray⟩, 0)) := hid (by
        intro w' s' y hl hs
        rw [read_all s' n hs.off (by rw [hs.vis]; exact hl.lc), hs.vis])
      cases xy with
      | false =>
        go_wp2_with (first | (go_at_call 26; refine (HC.out _).mono ?_; rintro e w3 ⟨rfl, rfl⟩; clear c0 c1 c2) | (go_at_call 27; refine (lo_put (hLo.out.box3 _ _ _) P str HP.out).mono ?_; rintro e w4 ⟨rfl, l4, f4⟩; obtain ⟨d0, d1, d2⟩ := hLo.out.box_put f4; have L4 := hid l4; clear l4 f4) | (go_at_call 21; refine (lo_write L4.out P str HSL.out hso (by omega) HP.out).mono ?_; rintro e w5 ⟨rfl, l5, k5⟩; have kk := cells_of (k5 _ rfl); rw [← kk 2] at d2; have L5 := hid l5; clear l5 kk k5 d0 d1) | (go_at_call 14; refine (lo_read L5.out 0 n (by omega) (by omega)).mono ?_; rw [HRD.out _ _ _ L5.out HSW.out]; rintro e w6 ⟨rfl, rfl⟩) | (refine list_of' (by rfl) (wp_conv_bytes (.tmp 74) 40 9 rfl 5 rfl rfl rfl _ _ _ (by rfl) g 0 (put cur P str.data.toList) 5 L5.out.row (fun _ => rfl) (by have := L5.out.lc; omega) ?_); have hlc6 := L5.out.lc; rw [List.drop_zero, List.take_of_length_le (Nat.le_of_eq hlc6)]; clear hlc6))
        go_roundw
        case rel => exact ⟨j + 1, _, _, y, by omega, by omega, by go_num, hid L5.out.unbox, HSW⟩
        case measure => simp [intOf]; omega
      | true =>
        have HSY := hid HSW.out.sync
        go_wp2_with (first | (go_at_call 26; refine (HC.out _).mono ?_; rintro e w3 ⟨rfl, rfl⟩; clear c0 c1 c2) | (go_at_call 27; refine (lo_put (hLo.out.box3 _ _ _) P str HP.out).mono ?_; rintro e w4 ⟨rfl, l4, f4⟩; obtain ⟨d0, d1, d2⟩ := hLo.out.box_put f4; have L4 := hid l4; clear l4 f4) | (go_at_call 21; refine (lo_write L4.out P str HSL.out hso (by omega) HP.out).mono ?_; rintro e w5 ⟨rfl, l5, k5⟩; have kk := cells_of (k5 _ rfl); rw [← kk 2] at d2; have L5 := hid l5; clear l5 kk k5 d0 d1) | (go_at_call 23; refine (lo_sync L5.out).mono ?_; rw [HSY.out.1]; rintro e w6 ⟨rfl, l6, k6⟩; have kk := cells_of (k6 _ rfl); rw [← kk 2] at d2; have L6 := hid l6; clear l6 kk k6 L5) | (go_at_call 14; refine (lo_read L6.out 0 n (by omega) (by omega)).mono ?_; rw [HRD.out _ _ _ L6.out HSY.out.2]; rintro e w7 ⟨rfl, rfl⟩) | (refine list_of' (by rfl) (wp_conv_bytes (.tmp 74) 40 9 rfl 5 rfl rfl rfl _ _ _ (by rfl) g 0 (put cur P str.data.toList) 5 L6.out.row (fun _ => rfl) (by have := L6.out.lc; omega) ?_); have hlc6 := L6.out.lc; rw [List.drop_zero, List.take_of_length_le (Nat.le_of_eq hlc6)]; clear hlc6))
        go_roundw
        case rel => exact ⟨j + 1, _, _, _, by omega, by omega, by go_num, hid L6.out.unbox, hid HSY.out.2⟩
        case measure => simp [intOf]; omega
    · by_cases hl3 : j < xs.length
      · have hl4 : ¬ j < 60 := by omega
        clear hlt
        go_wp2
        go_ret
        exact ⟨rfl, hLo.out.fr.below (Nat.le_refl _) (fun _ h => h)⟩
      · go_wp2
        go_ret
        exact ⟨rfl, hLo.out.fr.below (Nat.le_refl _) (fun _ h => h)⟩
end Go.Proofs.Ytlnngeafhinpkaa
