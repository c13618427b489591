/- DiskCut answers true. No condition. -/
import Derived.Test.YtlnngeafhinpkaaE7
set_option linter.unusedVariables false
set_option linter.unusedSimpArgs false
namespace Go.Proofs.Ytlnngeafhinpkaa
open Go.RowKit

structure Cu (n m : Nat) (s : St) (cur : Bs) (j : Nat) : Prop where
  off : s.off = decide (m ≤ j)
  left : s.left = ((m - j : Nat) : Int)
  vis : s.vis = cur
  lay : s.vis = lay s.dur s.pend
  fit : Fits n s.pend
  pl : s.pend.length = min j m
def cut0 (n m : Nat) : St := ⟨(m : Int) == 0, m, zeros n, zeros n, []⟩
theorem Cu.start (n m : Nat) : Cu n m (cut0 n m) (zeros n) 0 := ⟨by show ((m : Int) == 0) = decide (m ≤ 0); rw [Bool.eq_iff_iff]; simp, by simp [cut0], rfl, rfl, by simp [cut0, Fits], by simp [cut0]⟩
theorem Cu.on {n m : Nat} {s : St} {cur : Bs} {j : Nat} (h : Cu n m s cur j) (hj : j < m) (P : Nat) (str : ByteArray) (hf : P + str.size ≤ n) : Cu n m (wrote s P str) (put cur P str.data.toList) (j + 1) := by
  have hl : ¬ s.left = 0 := by rw [h.left]; omega
  have hu : wrote s P str = { off := s.left - 1 == 0, left := s.left - 1, dur := s.dur, vis := put s.vis P str.data.toList, pend := s.pend ++ [(P, str)] } := by
    unfold wrote used
    rw [if_neg hl]
  rw [hu]
  refine ⟨?_, ?_, by rw [h.vis], by simp only [lay_snoc, ← h.lay], ?_, ?_⟩
  · show (s.left - 1 == 0) = decide (m ≤ j + 1)
    rw [h.left, Bool.eq_iff_iff]
    simp
    omega
  · show s.left - 1 = _
    rw [h.left]
    omega
  · intro y hy
    simp only [List.mem_append, List.mem_singleton] at hy
    rcases hy with hy | rfl
    · exact h.fit y hy
    · exact hf
  · simp
    rw [h.pl]
    omega
theorem Cu.out {n m : Nat} {s : St} {cur : Bs} {j : Nat} (h : Cu n m s cur j) (hj : m ≤ j) : Cu n m s cur (j + 1) := by
  refine ⟨?_, ?_, h.vis, h.lay, h.fit, ?_⟩
  · rw [h.off]; simp; omega
  · rw [h.left]; omega
  · rw [h.pl]; omega
theorem own_len {w : World} {base k : Nat} {v : Value} {xs : List Value} (h : w.ownsRow base 3 1 v (allTo k).length xs) : w.ownsRow base 3 1 v k xs := by
  rw [allTo_length] at h
  exact h
theorem Lr.less {Q Q' : Nat → Prop} {w wr : World} {B bd bv n g : Nat} {s : St} {cur : Bs} {v : Value} {ks : List Int} (h : Lr Q w wr B bd bv n g s cur v ks) (hQ : ∀ k, Q' k → Q k) : Lr Q' w wr B bd bv n g s cur v ks := ⟨h.lo.less hQ, h.own⟩
theorem cut1 (n m : Nat) : cutS (fresh n) ((m : Int) + 5) = (0, ⟨false, (m : Int) + 5, zeros n, zeros n, []⟩) := by
  unfold cutS
  rw [if_neg (by simp [fresh]), if_neg (by omega)]
  have : ((m : Int) + 5 == 0) = false := by simp; omega
  rw [this]
  rfl
theorem cut2 (n m : Nat) : cutS ⟨false, (m : Int) + 5, zeros n, zeros n, []⟩ (m : Int) = (0, cut0 n m) := by
  unfold cutS
  rw [if_neg (by simp), if_neg (by omega)]
  rfl

set_option maxRecDepth 100000 in
set_option maxHeartbeats 6400000 in
theorem diskCut_any (size after : Int) (a : Option Addr) (len c : Nat) (xs : List WP) (w : World) (h1 : -9223372036854775808 ≤ size) (h2 : size ≤ 9223372036854775807) (h3 : -9223372036854775808 ≤ after) (h4 : after ≤ 9223372036854775807)
    (hx : Elems w.heap.size w 3 RWP (.slice a len c) xs) : Calls Try.prog 10 #[.int .i64 size, .int .i64 after, .slice a len c] w (True1 w) := by
  have HX := hid hx
  obtain ⟨a', c', he, hlc, hcm, hrow⟩ := hx
  clear hrow
  injection he with ha hlen hcap
  subst ha hlen hcap
  have hp := pickF_in size 100 (by omega)
  obtain ⟨n', hn'⟩ := Int.eq_ofNat_of_zero_le hp.1
  have HPK := hid (pick_any size 100 · h1 h2 (by omega) (by omega))
  rw [hn'] at HPK hp
  obtain ⟨n, hn⟩ : ∃ n : Nat, n = n' + 1 := ⟨_, rfl⟩
  have HN : Hid (1 + (n' : Int) = (n : Int)) := hid (by omega)
  have hmk := run_make_row' (P := Try.prog) 40 5 (.int .u8 0) 1 rfl info5' rfl .i64 .i64 n (by omega) (by omega)
  have hn1 : 1 ≤ n := by omega
  have hn2 : n ≤ 101 := by omega
  have hn0 : n' ≤ 100 := by omega
  have hq := pickF_in after 20 (by omega)
  obtain ⟨m, hm⟩ := Int.eq_ofNat_of_zero_le hq.1
  have HPM := hid (pick_any after 20 · h3 h4 (by omega) (by omega))
  rw [hm] at HPM hq
  have hm2 : m ≤ 19 := by omega
  clear hp hn' hn hq hm
  go_enter Try.func10, Try.ntmps10
  go_wp2_with (first | (go_at_call 12; refine (sane_any _).mono ?_; rintro e w1 ⟨rfl, b1⟩) | (go_at_call 15; refine (HPK.out _).mono ?_; rintro e w1' ⟨rfl, rfl⟩; clear HPK) | (go_at_call 15; refine (HPM.out _).mono ?_; rintro e w1' ⟨rfl, rfl⟩) | (go_at_call 13; rw [HN.out]; refine (live_new n hn1 (by omega) w1 w.heap.size b1.size).mono ?_; rintro e w2 ⟨B, bd, bv, rfl, hL, f2, b2⟩; have HL := hid hL; clear hL) | (go_at_call 24; refine (live_cut HL.out (Nat.le_trans b1.size f2.size) _).mono ?_; rw [cut1]; rintro e w3 ⟨rfl, hL3, f3⟩; have HL3 := hid hL3; have F3 := f2.trans f3; clear hL3 f2 f3 HL) | (go_at_call 24; refine (live_cut HL3.out (Nat.le_trans b1.size F3.size) _).mono ?_; rw [cut2]; rintro e w4 ⟨rfl, hL4, f4⟩; have HL4 := hid hL4; have F4 := F3.trans f4; clear hL4 F3 f4 HL3))
  have HS := hid (Lr.start (Fr.of_below b1) HL4.out F4)
  obtain ⟨g, hg⟩ : ∃ g, w4.heap.size = g := ⟨_, rfl⟩
  rw [hg] at HS
  rw [hg]
  clear hg b2 F4 b1 hmk HPM HL4
  go_loopw [11, 12] (fun v i wr => ∃ (j : Nat) (s : St) (cur : Bs), j ≤ xs.length ∧ j ≤ 40 ∧ i = .int .i64 j ∧ Hid (Lr (fun _ => False) w wr B bd bv n g s cur v (allTo (min j m))) ∧ Hid (Cu n m s cur j)) (fun _ i _ => xs.length - (intOf i).toNat)
  case atStart => exact ⟨0, cut0 n m, zeros n, by omega, by omega, rfl, hid (by rw [Nat.zero_min]; exact HS), hid (Cu.start n m)⟩
  case round =>
    obtain ⟨j, s, cur, hj, hj40, rfl, hLo, hSy⟩ := hrel
    clear HS
    have hpl : s.pend.length ≤ 19 := by have := hSy.out.pl; omega
    have hso := hSy.out.off
    have hsl := hSy.out.left
    by_cases hlt : j < xs.length ∧ j < 40
    · obtain ⟨hl1, hl2⟩ := hlt
      obtain ⟨bb, o, ha, hbb, c0, c1, c2, r1, r2, r3⟩ := writes_at HX.out hLo.out.lo.fr (Nat.le_refl _) j hl1
      subst ha
      generalize xs[j] = x at c0 c1 c2 r1 r2 r3
      obtain ⟨xo, xstr, xy⟩ := x
      dsimp only at c0 c1 c2 r1 r2 r3
      obtain ⟨P, str, hPf, hcall⟩ := fits_call xo xstr xy n r1 r2 r3 (by omega)
      have HC := hid hcall
      have HP := hid hPf
      have HSL : Hid (0 ≤ s.left ∧ s.left ≤ 9223372036854775807) := hid (by rw [hsl]; omega)
      have HPL : Hid (s.pend.length ≤ 1000000) := hid (by omega)
      by_cases hjm : j < m
      · have HSW := hid (hSy.out.on hjm P str hPf)
        have hmin : min j m = j := by omega
        have hmin1 : min (j + 1) m = j + 1 := by omega
        have HSO : Hid (s.off = false) := hid (by rw [hso]; simp; omega)
        rw [hmin] at hLo
        have HM1 := hid hmin1
        clear hcall hPf r1 r2 r3 hmin hmin1 hsl hso
        go_wp2_with (first | (go_at_call 26; refine (HC.out _).mono ?_; rintro e w3 ⟨rfl, rfl⟩; clear c0 c1 c2) | (go_at_call 21; refine (lr_write (hLo.out.box3 _ _ _) P str HSL.out HSO.out HPL.out HP.out).mono ?_; rintro e w5 ⟨rfl, l5, k5⟩; obtain ⟨d0, d1, d2⟩ := box_cells (k5 _ rfl) (box3_row _ _ _ _); have L5 := hid l5; clear l5 k5) | (go_at_call 27; refine (lr_put L5.out P str HP.out).mono ?_; rintro e w6 ⟨rfl, l6, f6⟩; have L6 := hid l6; clear l6 f6 L5 d0 d1 d2) | (refine append_int L6.out.own L6.out.lo.fr.size (by rw [allTo_length]; omega) (j : Int) rfl (.tmp 79) (.tmp 81) rfl (by rfl) (by rfl) (by rfl) ?_; intro v' w8 hown' hgrow; rw [allTo_succ] at hown'; have L8 := hid ((L6.out.alloc _).appended hown' hgrow); clear hown' hgrow L6))
        go_roundw
        case rel => exact ⟨j + 1, _, _, by omega, by omega, by go_num, hid (by rw [HM1.out]; exact L8.out), HSW⟩
        case measure => simp [intOf]; omega
      · have HSW := hid (hSy.out.out (by omega))
        have hmin : min j m = min (j + 1) m := by omega
        have HSO : Hid (s.off = true) := hid (by rw [hso]; simp; omega)
        rw [hmin] at hLo
        clear hcall hPf r1 r2 r3 hmin hsl hso
        go_wp2_with (first | (go_at_call 26; refine (HC.out _).mono ?_; rintro e w3 ⟨rfl, rfl⟩; clear c0 c1 c2) | (go_at_call 21; refine (lr_write_off (hLo.out.box3 _ _ _) P str HSL.out HSO.out HPL.out HP.out).mono ?_; rintro e w5 ⟨rfl, l5, k5⟩; have L5 := hid l5; clear l5 k5))
        go_roundw
        case rel => exact ⟨j + 1, _, _, by omega, by omega, by go_num, hid (L5.out.less (fun _ h => h.elim)), HSW⟩
        case measure => simp [intOf]; omega
    · have hcase : (j < xs.length ∧ ¬ j < 40) ∨ ¬ j < xs.length := by omega
      clear hlt
      by_cases hjm : j < m
      · have hmin : min j m = j := by omega
        have HSY : Hid ((syncS s).1 = 0) := hid (by unfold syncS; rw [hso, if_neg (by simp; omega)])
        rw [hmin] at hLo
        obtain ⟨ad, cap, hv, hcp⟩ : ∃ ad cap, u11 = .slice ad j cap ∧ j ≤ cap := by
          obtain ⟨_, ad, cap, _, h5, h6, _⟩ := own_view hLo.out.own
          rw [allTo_length] at h5 h6
          exact ⟨ad, cap, h5, h6⟩
        subst hv
        clear hmin hso hsl
        have hl3 : ¬ j < xs.length := by omega
        clear hcase
        all_goals
          go_wp2_with (go_at_call 23; refine (lr_sync hLo.out).mono ?_; rw [HSY.out]; rintro e w3 ⟨rfl, l3, k3⟩; have L3 := hid l3; clear l3 k3)
          go_ret
          exact ⟨by simp, L3.out.lo.fr.below (Nat.le_refl _) (fun _ h => h)⟩
      · have hmin : min j m = m := by omega
        have hpm : s.pend.length = m := by have := hSy.out.pl; omega
        have HSO : Hid (s.off = true) := hid (by rw [hso]; simp; omega)
        have HSY : Hid (syncS s = (91, s)) := hid (by unfold syncS; rw [if_pos HSO.out])
        have HCT : Hid (cutS s 3 = (91, s)) := hid (by unfold cutS; rw [if_pos HSO.out])
        have HR0 : Hid (readS s n 0 0 = (ByteArray.empty, 91)) := hid (by unfold readS; rw [if_pos HSO.out])
        have HCR : Hid (crashS s (allTo m) (-1) = { off := false, left := 0, dur := cur, vis := cur, pend := [] }) := hid (by have := crash_all s hSy.out.lay; rw [hpm, hSy.out.vis] at this; exact this)
        have HWX : Hid ((syncS (wrote { off := false, left := 0, dur := cur, vis := cur, pend := [] } 0 ⟨#[120]⟩)).1 = 0) := hid rfl
        have HFT := hid hSy.out.fit
        have HPM := hid hpm
        rw [hmin] at hLo
        obtain ⟨ad, cap, hv, hcp⟩ : ∃ ad cap, u11 = .slice ad m cap ∧ m ≤ cap := by
          obtain ⟨_, ad, cap, _, h5, h6, _⟩ := own_view hLo.out.own
          rw [allTo_length] at h5 h6
          exact ⟨ad, cap, h5, h6⟩
        subst hv
        clear hmin hso hsl hpm
        rcases hcase with ⟨hl3, hl4⟩ | hl3
        all_goals
          go_wp2_with (first | (go_at_call 14; refine (lo_read hLo.out.lo 0 0 (by omega) (by omega)).mono ?_; rw [HR0.out]; rintro e w3 ⟨rfl, rfl⟩) | (go_at_call 23; refine (lr_sync hLo.out).mono ?_; rw [HSY.out]; dsimp only; rintro e w3 ⟨rfl, l3, k3⟩; have L3 := hid l3; clear l3 k3 hLo) | (go_at_call 24; refine (lr_cut L3.out 3).mono ?_; rw [HCT.out]; dsimp only; rintro e w4 ⟨rfl, l4, k4⟩; have L4 := hid l4; clear l4 k4 L3) | (go_at_call 17; refine (held_pending L4.out.lo.held).mono ?_; rw [HPM.out]; rintro e w5 ⟨rfl, rfl⟩) | (go_at_call 16; refine (held_size L4.out.lo.held).mono ?_; rintro e w5 ⟨rfl, rfl⟩) | (go_at_call 25; refine (lr_crash L4.out HFT.out (by rw [HPM.out]; omega) (by rw [allTo_length]; omega) (-1) (by omega) (by omega)).mono ?_; rw [HCR.out]; rintro e w5 ⟨rfl, l5, k5⟩; have L5 := hid l5; clear l5 k5 L4) | (go_at_call 14; refine (lr_read_all L5.out rfl).mono ?_; rintro e w6 ⟨rfl, rfl⟩) | (refine list_of' (by rfl) (wp_conv_bytes (.tmp 156) 40 9 rfl 5 rfl rfl rfl _ _ _ (by rfl) g 0 cur 5 L5.out.lo.row (fun _ => rfl) (by have := L5.out.lo.lc; omega) ?_); have hlc6 := L5.out.lo.lc; rw [List.drop_zero, List.take_of_length_le (Nat.le_of_eq hlc6)]; clear hlc6) | (go_at_call 21; refine (lr_write L5.out 0 ⟨#[120]⟩ (by simp) rfl (by simp) (show 0 + 1 ≤ n by omega)).mono ?_; rintro e w7 ⟨rfl, l7, k7⟩; have L7 := hid l7; clear l7 k7 L5) | (go_at_call 23; refine (lr_sync L7.out).mono ?_; rw [HWX.out]; rintro e w8 ⟨rfl, l8, k8⟩; have L8 := hid l8; clear l8 k8 L7))
          go_ret
          exact ⟨by simp, L8.out.lo.fr.below (Nat.le_refl _) (fun _ h => h)⟩
end Go.Proofs.Ytlnngeafhinpkaa
