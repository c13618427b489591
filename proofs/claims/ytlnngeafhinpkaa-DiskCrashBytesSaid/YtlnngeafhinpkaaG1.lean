/- DiskCrashBytes answers true, where the writes are more than the statement takes. No condition. -/
import Derived.Test.YtlnngeafhinpkaaG0
set_option linter.unusedVariables false
set_option linter.unusedSimpArgs false
namespace Go.Proofs.Ytlnngeafhinpkaa
open Go.RowKit

set_option maxRecDepth 100000 in
set_option maxHeartbeats 6400000 in
theorem crashBytes_gt (size torn : Int) (a a2 : Option Addr) (len c len2 c2 : Nat) (xs : List WP) (bs : List Bool) (w : World) (h1 : -9223372036854775808 ≤ size) (h2 : size ≤ 9223372036854775807) (h3 : -9223372036854775808 ≤ torn) (h4 : torn ≤ 9223372036854775807)
    (hx : Elems w.heap.size w 3 RWP (.slice a len c) xs) (hy : Elems w.heap.size w 1 RBool (.slice a2 len2 c2) bs) (hbig : 20 < xs.length) : Calls Try.prog 8 #[.int .i64 size, .slice a len c, .slice a2 len2 c2, .int .i64 torn] w (True1 w) := by
  have HX := hid hx
  have HY := hid hy
  obtain ⟨a', c', he, hlc, hcm, hrow⟩ := hx
  clear hrow
  injection he with ha hlen hcap
  subst ha hlen hcap
  obtain ⟨a', c', he, hlc2, hcm2, hrow⟩ := hy
  clear hrow
  injection he with ha hlen hcap
  subst ha hlen hcap
  have hp := pickF_in size 100 (by omega)
  obtain ⟨n', hn'⟩ := Int.eq_ofNat_of_zero_le hp.1
  have HPK := hid (pick_any size 100 · h1 h2 (by omega) (by omega))
  rw [hn'] at HPK hp
  obtain ⟨n, hn⟩ : ∃ n : Nat, n = n' + 1 := ⟨_, rfl⟩
  have HN : Hid (1 + (n' : Int) = (n : Int)) := hid (by omega)
  have hmk := run_make_row' (P := Try.prog) 40 5 (.int .u8 0) 1 rfl info5' rfl .i64 .i64 n (by omega) (by omega)
  have hn1 : 1 ≤ n := by omega
  have hn2 : n ≤ 101 := by omega
  have hn0 : n' ≤ 100 := by omega
  clear hp hn' hn
  go_enter Try.func8, Try.ntmps8
  go_wp2_with (first | (go_at_call 12; refine (sane_any _).mono ?_; rintro e w1 ⟨rfl, b1⟩) | (go_at_call 15; refine (HPK.out _).mono ?_; rintro e w1' ⟨rfl, rfl⟩; clear HPK) | (go_at_call 13; rw [HN.out]; refine (live_new n hn1 (by omega) w1 w.heap.size b1.size).mono ?_; rintro e w2 ⟨B, bd, bv, rfl, hL, f2, b2⟩; have HL := hid hL; clear hL))
  have HS := hid (Lr.start (Fr.of_below b1) HL.out f2)
  obtain ⟨g, hg⟩ : ∃ g, w2.heap.size = g := ⟨_, rfl⟩
  rw [hg] at HS
  rw [hg]
  clear hg b2 f2 b1 hmk HL
  go_loopw [13] (fun i wr => ∃ (j : Nat) (cur : Bs), j ≤ n ∧ i = .int .i64 j ∧ Hid (Lr (fun _ => False) w wr B bd bv n g (fresh n) cur (.slice none 0 0) [])) (fun i _ => n - (intOf i).toNat)
  case atStart => exact ⟨0, zeros n, by omega, rfl, HS⟩
  case round =>
    clear HS
    obtain ⟨j, cur, hj, rfl, hLo⟩ := hrel
    by_cases hlt : j < n
    · obtain ⟨old, hcell⟩ : ∃ v, wr.cell? ⟨g, j, none⟩ = some v := ⟨_, by rw [row_cell hLo.out.lo.row]; exact bvs_get _ _ (by rw [hLo.out.lo.lc]; exact hlt)⟩
      have hfz : wr.frozen? ⟨g, j, none⟩ = false := row_free hLo.out.lo.row _
      go_wp2
      go_roundw
      case rel =>
        exact ⟨j + 1, _, by omega, by go_num, hid (hLo.out.setByte j (48 + (j : Int) % 10) (by omega))⟩
      case measure => simp [intOf]; omega
    · have hlc0 := hLo.out.lo.lc
      have HLC := hid hlc0
      have HFS := hid (fill_state n cur hlc0)
      clear hlc0
      go_wp2_with (first | (refine list_of rfl (wp_conv_bytes (.tmp 49) 40 9 rfl 5 rfl rfl rfl _ _ _ (by rfl) g 0 cur 5 hLo.out.lo.row (fun _ => rfl) (by have := HLC.out; omega) ?_); rw [List.drop_zero, List.take_of_length_le (Nat.le_of_eq HLC.out)]) | (go_at_call 21; refine (lr_write hLo.out 0 ⟨cur.toArray⟩ (by simp [fresh]) rfl (by simp [fresh]) (by have := HLC.out; show 0 + cur.length ≤ n; omega)).mono ?_; rintro e w3 ⟨rfl, l3, k3⟩; have L3 := hid l3; clear l3 k3 hLo) | (go_at_call 23; refine (lr_sync L3.out).mono ?_; rw [HFS.out]; dsimp only; rintro e w4 ⟨rfl, l4, k4⟩; have L4 := hid l4; clear l4 k4 L3))
      clear HFS hlt hj
      go_loopw [14, 15] (fun last i wr => ∃ (j : Nat), j ≤ xs.length ∧ j ≤ 20 ∧ last = .int .i64 (lastF (keptF bs) j) ∧ i = .int .i64 j ∧ wr = w4) (fun _ i _ => xs.length - (intOf i).toNat)
      case atStart => exact ⟨0, by omega, by omega, rfl, rfl, rfl⟩
      case round =>
        obtain ⟨j2, hj2, hj20, rfl, rfl, rfl⟩ := hrel
        have hlr := lastF_in (keptF bs) j2
        obtain ⟨lst, hlst⟩ : ∃ z, z = lastF (keptF bs) j2 := ⟨_, rfl⟩
        rw [← hlst]
        rw [← hlst] at hlr
        have HLS := hid hlst
        clear hlst
        by_cases hlt : j2 < xs.length ∧ j2 < 20
        · obtain ⟨hl1, hl2⟩ := hlt
          by_cases hb : j2 < bs.length
          · obtain ⟨bb, o, ha, hbb, hbw, c0⟩ := bools_at HY.out L4.out.lo.fr (Nat.le_refl _) j2 hb
            subst ha
            have HKE : Hid (keptF bs j2 = bs[j2]) := hid (by unfold keptF; simp [hb])
            cases hbj : bs[j2] with
            | true =>
              rw [hbj] at c0 HKE
              have HK2 : Hid (lastF (keptF bs) (j2 + 1) = (j2 : Int)) := hid (by unfold lastF; rw [if_pos HKE.out])
              go_wp2
              go_roundw
              case rel => exact ⟨j2 + 1, by omega, by omega, by rw [HK2.out], by go_num, trivial⟩
              case measure => simp [intOf]; omega
            | false =>
              rw [hbj] at c0 HKE
              have HK2 : Hid (lastF (keptF bs) (j2 + 1) = lst) := hid (by rw [HLS.out]; conv => lhs; unfold lastF; rw [if_neg (by rw [HKE.out]; simp)])
              go_wp2
              go_roundw
              case rel => exact ⟨j2 + 1, by omega, by omega, by rw [HK2.out], by go_num, trivial⟩
              case measure => simp [intOf]; omega
          · have HKE : Hid (keptF bs j2 = false) := hid (by unfold keptF; rw [List.getElem?_eq_none (by omega)]; rfl)
            have HK2 : Hid (lastF (keptF bs) (j2 + 1) = lst) := hid (by rw [HLS.out]; conv => lhs; unfold lastF; rw [if_neg (by rw [HKE.out]; simp)])
            go_wp2
            go_roundw
            case rel => exact ⟨j2 + 1, by omega, by omega, by rw [HK2.out], by go_num, trivial⟩
            case measure => simp [intOf]; omega
        · have hl3 : j2 < xs.length := by omega
          have hl4 : ¬ j2 < 20 := by omega
          have HM := hid (show j2 = min xs.length 20 by omega)
          clear hlt hlr
          go_wp2
          go_loopw [16, 17] (fun v i wr => ∃ (j : Nat) (s : St) (d : Bs), j ≤ xs.length ∧ j ≤ 20 ∧ i = .int .i64 j ∧ Hid (Lr (fun _ => False) w wr B bd bv n g s d v (backL (keptF bs) j)) ∧ Hid (Cb (keptF bs) n cur lst torn s d j)) (fun _ i _ => xs.length - (intOf i).toNat)
          case atStart => exact ⟨0, filled cur, cur, by omega, by omega, rfl, L4, hid ⟨rfl, rfl, rfl, by simp [filled, Fits], rfl, rfl⟩⟩
          case round =>
            clear L4
            obtain ⟨j, s, d, hj, hjt, rfl, hLo, hSy⟩ := hrel
            have HPL : Hid (s.pend.length = j) := hid hSy.out.pl
            have HSO := hid hSy.out.off
            have HSL : Hid (0 ≤ s.left ∧ s.left ≤ 9223372036854775807) := hid (by have := hSy.out.left; omega)
            have HBL : Hid ((backL (keptF bs) j).length ≤ 1000000) := hid (by have := backL_length (keptF bs) j; omega)
            by_cases hlt : j < xs.length ∧ j < 20
            · obtain ⟨hm1, hm2⟩ := hlt
              clear hl3 hl4
              obtain ⟨bb, o, ha, hbb, c0, c1, c2, r1, r2, r3⟩ := writes_at HX.out hLo.out.lo.fr (Nat.le_refl _) j hm1
              subst ha
              generalize xs[j] = x at c0 c1 c2 r1 r2 r3
              obtain ⟨xo, xstr, xy⟩ := x
              dsimp only at c0 c1 c2 r1 r2 r3
              obtain ⟨P, str, hPf, hcall⟩ := fits_call xo xstr xy n r1 r2 r3 (by omega)
              have HC := hid hcall
              have HP := hid hPf
              have HSW := hid (hSy.out.wrote P str hPf)
              have HSZ : Hid (str.size ≤ 9223372036854775807) := hid (by omega)
              clear hcall hPf r1 r2 r3
              by_cases hb : j < bs.length
              · obtain ⟨b3, o3, ha3, hb3, hc3⟩ := bools_on HY.out rfl j hb
                subst ha3
                have HKE : Hid (keptF bs j = bs[j]) := hid (by unfold keptF; simp [hb])
                cases hbj : bs[j] with
                | true =>
                  rw [hbj] at hc3 HKE
                  have HB3 := hid hc3
                  clear hc3
                  have HBK : Hid (backL (keptF bs) (j + 1) = (j : Int) :: backL (keptF bs) j) := hid (by rw [backL_succ, if_pos HKE.out])
                  by_cases hl : (j : Int) = lst ∧ 0 ≤ torn
                  · have HST : Hid (stepB (keptF bs) lst torn d j (P, str) = put d P (cutF str torn).data.toList) := hid (by unfold stepB; rw [if_pos HKE.out, if_pos hl])
                    have HF2 : Hid (P + (cutF str torn).size ≤ n) := hid (by have h5 := (cutF_size str torn).1; have h6 := HP.out; omega)
                    obtain ⟨hl1', ht⟩ := hl
                    have hl1 : ((j : Int) == lst) = true := by simp [hl1']
                    clear hl1'
                    go_wp2_with (first | (go_at_call 26; refine (HC.out _).mono ?_; rintro e w5 ⟨rfl, rfl⟩; clear c0 c1 c2) | (go_at_call 21; refine (lr_write (hLo.out.box3 _ _ _) P str HSL.out HSO.out (by rw [HPL.out]; omega) HP.out).mono ?_; rintro e w6 ⟨rfl, l6, k6⟩; obtain ⟨d0, d1, d2⟩ := box_cells (k6 _ rfl) (box3_row _ _ _ _); have c3 := HB3.out _ l6.lo.fr; have hq6 : wr.heap.size + 2 < w6.heap.size := l6.lo.q _ rfl; have hb6 := l6.lo.fr.size; have L6 := hid l6; clear l6 k6) | (refine prepend_int L6.out.own L6.out.lo.fr.size HBL.out (j : Int) rfl (.tmp 113) (.tmp 114) rfl (by rfl) (by rfl) (by rfl) ?_; intro v' w8 hown' f8; have kk := cells_of (f8.block (wr.heap.size + 2) hq6 (fun h => h)); rw [← kk 0] at d0; rw [← kk 1] at d1; have L8 := hid (L6.out.newrow hown' f8); clear hown' kk f8 hq6 L6 c3 d2) | (go_at_call 22; refine (cut_any2 str torn _ HSZ.out ht).mono ?_; rintro e w9 ⟨rfl, rfl⟩) | (go_at_call 27; refine (lr_put L8.out P (cutF str torn) HF2.out).mono ?_; rintro e w9 ⟨rfl, l9, f9⟩; have L9 := hid l9; clear l9 f9 L8 d0 d1))
                    go_roundw
                    case rel => exact ⟨j + 1, _, _, by omega, by omega, by go_num, hid (by rw [HBK.out]; exact L9.out.less (fun _ h => h.elim)), hid (by have h7 := HSW.out; rw [HST.out] at h7; exact h7)⟩
                    case measure => simp [intOf]; omega
                  · have HST : Hid (stepB (keptF bs) lst torn d j (P, str) = put d P str.data.toList) := hid (by unfold stepB; rw [if_pos HKE.out, if_neg hl])
                    have hcs : ((j : Int) == lst) = false ∨ (((j : Int) == lst) = true ∧ torn < 0) := by
                      by_cases e : (j : Int) = lst
                      · exact .inr ⟨by simp [e], by omega⟩
                      · exact .inl (by simp [e])
                    clear hl
                    rcases hcs with hl1 | ⟨hl1, ht⟩
                    all_goals
                      go_wp2_with (first | (go_at_call 26; refine (HC.out _).mono ?_; rintro e w5 ⟨rfl, rfl⟩; clear c0 c1 c2) | (go_at_call 21; refine (lr_write (hLo.out.box3 _ _ _) P str HSL.out HSO.out (by rw [HPL.out]; omega) HP.out).mono ?_; rintro e w6 ⟨rfl, l6, k6⟩; obtain ⟨d0, d1, d2⟩ := box_cells (k6 _ rfl) (box3_row _ _ _ _); have c3 := HB3.out _ l6.lo.fr; have hq6 : wr.heap.size + 2 < w6.heap.size := l6.lo.q _ rfl; have hb6 := l6.lo.fr.size; have L6 := hid l6; clear l6 k6) | (refine prepend_int L6.out.own L6.out.lo.fr.size HBL.out (j : Int) rfl (.tmp 113) (.tmp 114) rfl (by rfl) (by rfl) (by rfl) ?_; intro v' w8 hown' f8; have kk := cells_of (f8.block (wr.heap.size + 2) hq6 (fun h => h)); rw [← kk 0] at d0; rw [← kk 1] at d1; have L8 := hid (L6.out.newrow hown' f8); clear hown' kk f8 hq6 L6 c3 d2) | (go_at_call 27; refine (lr_put L8.out P str HP.out).mono ?_; rintro e w9 ⟨rfl, l9, f9⟩; have L9 := hid l9; clear l9 f9 L8 d0 d1))
                      go_roundw
                      case rel => exact ⟨j + 1, _, _, by omega, by omega, by go_num, hid (by rw [HBK.out]; exact L9.out.less (fun _ h => h.elim)), hid (by have h7 := HSW.out; rw [HST.out] at h7; exact h7)⟩
                      case measure => simp [intOf]; omega
                | false =>
                  rw [hbj] at hc3 HKE
                  have HB3 := hid hc3
                  clear hc3
                  have HBK : Hid (backL (keptF bs) (j + 1) = backL (keptF bs) j) := hid (by rw [backL_succ, if_neg (by rw [HKE.out]; simp)])
                  have HST : Hid (stepB (keptF bs) lst torn d j (P, str) = d) := hid (by unfold stepB; rw [if_neg (by rw [HKE.out]; simp)])
                  go_wp2_with (first | (go_at_call 26; refine (HC.out _).mono ?_; rintro e w5 ⟨rfl, rfl⟩; clear c0 c1 c2) | (go_at_call 21; refine (lr_write (hLo.out.box3 _ _ _) P str HSL.out HSO.out (by rw [HPL.out]; omega) HP.out).mono ?_; rintro e w6 ⟨rfl, l6, k6⟩; obtain ⟨d0, d1, d2⟩ := box_cells (k6 _ rfl) (box3_row _ _ _ _); have c3 := HB3.out _ l6.lo.fr; have hq6 : wr.heap.size + 2 < w6.heap.size := l6.lo.q _ rfl; have hb6 := l6.lo.fr.size; have L6 := hid l6; clear l6 k6) | (refine prepend_int L6.out.own L6.out.lo.fr.size HBL.out (j : Int) rfl (.tmp 113) (.tmp 114) rfl (by rfl) (by rfl) (by rfl) ?_; intro v' w8 hown' f8; have kk := cells_of (f8.block (wr.heap.size + 2) hq6 (fun h => h)); rw [← kk 0] at d0; rw [← kk 1] at d1; have L8 := hid (L6.out.newrow hown' f8); clear hown' kk f8 hq6 L6 c3 d2))
                  go_roundw
                  case rel => exact ⟨j + 1, _, _, by omega, by omega, by go_num, hid (by rw [HBK.out]; exact L6.out.less (fun _ h => h.elim)), hid (by have h7 := HSW.out; rw [HST.out] at h7; exact h7)⟩
                  case measure => simp [intOf]; omega
              · have HKE : Hid (keptF bs j = false) := hid (by unfold keptF; rw [List.getElem?_eq_none (by omega)]; rfl)
                have HB3 : Hid (∀ W, Fr (fun k => w.heap.size ≤ k) w W → True) := hid (fun _ _ => trivial)
                have HBK : Hid (backL (keptF bs) (j + 1) = backL (keptF bs) j) := hid (by rw [backL_succ, if_neg (by rw [HKE.out]; simp)])
                have HST : Hid (stepB (keptF bs) lst torn d j (P, str) = d) := hid (by unfold stepB; rw [if_neg (by rw [HKE.out]; simp)])
                go_wp2_with (first | (go_at_call 26; refine (HC.out _).mono ?_; rintro e w5 ⟨rfl, rfl⟩; clear c0 c1 c2) | (go_at_call 21; refine (lr_write (hLo.out.box3 _ _ _) P str HSL.out HSO.out (by rw [HPL.out]; omega) HP.out).mono ?_; rintro e w6 ⟨rfl, l6, k6⟩; obtain ⟨d0, d1, d2⟩ := box_cells (k6 _ rfl) (box3_row _ _ _ _); have c3 := HB3.out _ l6.lo.fr; have hq6 : wr.heap.size + 2 < w6.heap.size := l6.lo.q _ rfl; have hb6 := l6.lo.fr.size; have L6 := hid l6; clear l6 k6) | (refine prepend_int L6.out.own L6.out.lo.fr.size HBL.out (j : Int) rfl (.tmp 113) (.tmp 114) rfl (by rfl) (by rfl) (by rfl) ?_; intro v' w8 hown' f8; have kk := cells_of (f8.block (wr.heap.size + 2) hq6 (fun h => h)); rw [← kk 0] at d0; rw [← kk 1] at d1; have L8 := hid (L6.out.newrow hown' f8); clear hown' kk f8 hq6 L6 c3 d2))
                go_roundw
                case rel => exact ⟨j + 1, _, _, by omega, by omega, by go_num, hid (by rw [HBK.out]; exact L6.out.less (fun _ h => h.elim)), hid (by have h7 := HSW.out; rw [HST.out] at h7; exact h7)⟩
                case measure => simp [intOf]; omega
            · have hjm : j = j2 := by have := HM.out; omega
              subst hjm
              have HCR : Hid (crashS s (backL (keptF bs) j) torn = { off := false, left := 0, dur := d, vis := d, pend := [] }) := hid (by
                have h8 := crash_back (keptF bs) s torn
                rw [HPL.out, ← HLS.out, hSy.out.dur, ← hSy.out.cur] at h8
                exact h8)
              have HFT := hid hSy.out.fit
              clear hlt
              go_wp2_with (first | (go_at_call 25; refine (lr_crash hLo.out HFT.out (by rw [HPL.out]; omega) HBL.out torn h3 h4).mono ?_; rw [HCR.out]; rintro e w5 ⟨rfl, l5, k5⟩; have L5 := hid l5; clear l5 k5 hLo) | (go_at_call 14; refine (lr_read_all L5.out rfl).mono ?_; rintro e w6 ⟨rfl, rfl⟩) | (refine list_of' (by rfl) (wp_conv_bytes (.tmp 154) 40 9 rfl 5 rfl rfl rfl _ _ _ (by rfl) g 0 d 5 L5.out.lo.row (fun _ => rfl) (by have := L5.out.lo.lc; omega) ?_); have hlc6 := L5.out.lo.lc; rw [List.drop_zero, List.take_of_length_le (Nat.le_of_eq hlc6)]; clear hlc6))
              go_ret
              exact ⟨by simp, L5.out.lo.fr.below (Nat.le_refl _) (fun _ h => h)⟩

theorem crashBytes_any (size torn : Int) (a a2 : Option Addr) (len c len2 c2 : Nat) (xs : List WP) (bs : List Bool) (w : World) (h1 : -9223372036854775808 ≤ size) (h2 : size ≤ 9223372036854775807) (h3 : -9223372036854775808 ≤ torn) (h4 : torn ≤ 9223372036854775807)
    (hx : Elems w.heap.size w 3 RWP (.slice a len c) xs) (hy : Elems w.heap.size w 1 RBool (.slice a2 len2 c2) bs) : Calls Try.prog 8 #[.int .i64 size, .slice a len c, .slice a2 len2 c2, .int .i64 torn] w (True1 w) := by
  by_cases hl : xs.length ≤ 20
  · exact crashBytes_le size torn a a2 len c len2 c2 xs bs w h1 h2 h3 h4 hx hy hl
  · exact crashBytes_gt size torn a a2 len c len2 c2 xs bs w h1 h2 h3 h4 hx hy (by omega)
end Go.Proofs.Ytlnngeafhinpkaa
