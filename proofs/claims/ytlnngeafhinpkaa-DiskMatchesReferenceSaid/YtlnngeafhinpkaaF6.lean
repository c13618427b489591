/- DiskAllSurvive, where the writes are more than the statement takes. No condition. -/
import Derived.Test.YtlnngeafhinpkaaE6
set_option linter.unusedVariables false
set_option linter.unusedSimpArgs false
namespace Go.Proofs.Ytlnngeafhinpkaa
open Go.RowKit

set_option maxRecDepth 100000 in
set_option maxHeartbeats 1600000 in
theorem allSurvive_gt (size : Int) (a : Option Addr) (len c : Nat) (xs : List WP) (w : World) (h1 : -9223372036854775808 ≤ size) (h2 : size ≤ 9223372036854775807)
    (hx : Elems w.heap.size w 3 RWP (.slice a len c) xs) (hbig : 60 < xs.length) : Calls Try.prog 9 #[.int .i64 size, .slice a len c] w (True1 w) := by
  have HX := hid hx
  obtain ⟨a', c', he, hlc, hcm, hrow⟩ := hx
  clear hrow
  injection he with ha hlen hcap
  subst ha hlen hcap
  have hp := pickF_in size 300 (by omega)
  obtain ⟨n', hn'⟩ := Int.eq_ofNat_of_zero_le hp.1
  have HPK := hid (pick_any size 300 · h1 h2 (by omega) (by omega))
  rw [hn'] at HPK hp
  obtain ⟨n, hn⟩ : ∃ n : Nat, n = n' + 1 := ⟨_, rfl⟩
  have HN : Hid (1 + (n' : Int) = (n : Int)) := hid (by omega)
  have hn1 : 1 ≤ n := by omega
  have hn2 : n ≤ 301 := by omega
  have hn0 : n' ≤ 300 := by omega
  clear hp hn' hn
  go_enter Try.func9, Try.ntmps9
  go_wp2_with (first | (go_at_call 12; refine (sane_any _).mono ?_; rintro e w1 ⟨rfl, b1⟩) | (go_at_call 15; refine (HPK.out _).mono ?_; rintro e w1' ⟨rfl, rfl⟩) | (go_at_call 13; rw [HN.out]; refine (live_new n hn1 (by omega) w1 w.heap.size b1.size).mono ?_; rintro e w2 ⟨B, bd, bv, rfl, hL, f2, b2⟩; have HL := hid hL; clear hL))
  have HS := hid (Lh.start (Fr.of_below b1) HL.out f2)
  clear b2 f2 b1 HPK HL
  go_loopw [8] (fun i wr => ∃ (j : Nat) (s : St), j ≤ xs.length ∧ j ≤ 60 ∧ i = .int .i64 j ∧ Hid (Lh (fun _ => False) w wr B bd bv n s) ∧ Hid (Su n s j)) (fun i _ => xs.length - (intOf i).toNat)
  case atStart => exact ⟨0, fresh n, by omega, by omega, rfl, HS, hid (Su.start n)⟩
  case round =>
    obtain ⟨j, s, hj, hj60, rfl, hLo, hSy⟩ := hrel
    clear HS
    have hpl : s.pend.length ≤ 60 := by have := hSy.out.pl; omega
    have hso := hSy.out.off
    have hsl := hSy.out.left
    by_cases hlt : j < xs.length ∧ j < 60
    · obtain ⟨hl1, hl2⟩ := hlt
      obtain ⟨bb, o, ha, hbb, c0, c1, c2, r1, r2, r3⟩ := writes_at HX.out hLo.out.fr (Nat.le_refl _) j hl1
      subst ha
      generalize xs[j] = x at c0 c1 c2 r1 r2 r3
      obtain ⟨xo, xstr, xy⟩ := x
      dsimp only at c0 c1 c2 r1 r2 r3
      obtain ⟨P, str, hPf, hcall⟩ := fits_call xo xstr xy n r1 r2 r3 (by omega)
      have HC := hid hcall
      have HP := hid hPf
      have HSW := hid (hSy.out.wrote P str hPf)
      have HSL : Hid (0 ≤ s.left ∧ s.left ≤ 9223372036854775807) := hid (by omega)
      clear hcall hPf r1 r2 r3
      cases xy with
      | false =>
        go_wp2_with (first | (go_at_call 26; refine (HC.out _).mono ?_; rintro e w3 ⟨rfl, rfl⟩; clear c0 c1 c2) | (go_at_call 21; refine (lh_write (hLo.out.box3 _ _ _) P str HSL.out hso (by omega) HP.out).mono ?_; rintro e w5 ⟨rfl, l5, k5, z5⟩; obtain ⟨d0, d1, d2⟩ := box_cells (k5 _ (.inr rfl)) (box3_row _ _ _ _); have L5 := hid l5; clear l5 k5 z5 d0 d1))
        go_roundw
        case rel => exact ⟨j + 1, _, by omega, by omega, by go_num, hid (L5.out.less (fun _ h => .inl h)), HSW⟩
        case measure => simp [intOf]; omega
      | true =>
        have HSY := hid HSW.out.sync
        go_wp2_with (first | (go_at_call 26; refine (HC.out _).mono ?_; rintro e w3 ⟨rfl, rfl⟩; clear c0 c1 c2) | (go_at_call 21; refine (lh_write (hLo.out.box3 _ _ _) P str HSL.out hso (by omega) HP.out).mono ?_; rintro e w5 ⟨rfl, l5, k5, z5⟩; obtain ⟨d0, d1, d2⟩ := box_cells (k5 _ (.inr rfl)) (box3_row _ _ _ _); have L5 := hid l5; clear l5 k5 z5 d0 d1) | (go_at_call 23; refine (lh_sync L5.out).mono ?_; rw [HSY.out.1]; rintro e w6 ⟨rfl, l6, k6, z6⟩; have L6 := hid l6; clear l6 k6 z6 L5))
        go_roundw
        case rel => exact ⟨j + 1, _, by omega, by omega, by go_num, hid (L6.out.less (fun _ h => .inl h)), hid HSY.out.2⟩
        case measure => simp [intOf]; omega
    · have HCR := hid (crash_all s hSy.out.vis)
      have HFT := hid hSy.out.fit
      have hcase : j < xs.length ∧ ¬ j < 60 := by omega
      clear hlt
      obtain ⟨wq, hwq⟩ : ∃ wq, wq = wr := ⟨_, rfl⟩
      subst hwq
      obtain ⟨hl3, hl4⟩ := hcase
      clear hbig
      all_goals
        go_wp2_with (go_at_call 14; refine (lh_read_all hLo.out hso).mono ?_; rintro e w4 ⟨rfl, rfl⟩)
        go_loopw [12, 13] (fun v i w4 => ∃ k : Nat, k ≤ s.pend.length ∧ i = .int .i64 k ∧ Hid (w4.ownsRow wq.heap.size 3 1 v (allTo k).length (ints (allTo k))) ∧ Hid (Fr (fun k => wq.heap.size ≤ k) wq w4)) (fun _ i _ => s.pend.length - (intOf i).toNat)
        case atStart => exact ⟨0, by omega, rfl, hid (World.ownsRow_nil _ _ _ _), hid (Fr.refl _ _)⟩
        case round =>
          obtain ⟨k, hk, rfl, hO, hF⟩ := hrel
          have hLw := hid (hLo.out.newer (Nat.le_refl _) hF.out)
          by_cases hkl : k < s.pend.length
          · go_wp2_with (first | (go_at_call 17; refine (held_pending hLw.out.held).mono ?_; rintro e w7 ⟨rfl, rfl⟩) | (refine append_int hO.out hF.out.size (by rw [allTo_length]; omega) (k : Int) rfl (.tmp 75) (.tmp 77) rfl (by rfl) (by rfl) (by rfl) ?_; intro v' w8 hown' hgrow; rw [allTo_succ] at hown'; have HO' := hid hown'; have HF' := hid (hF.out.trans (((Fr.refl _ _).alloc _).trans (own_grown (hO.out.alloc _) hgrow))); clear hown' hgrow))
            go_roundw
            case rel => exact ⟨k + 1, by omega, by go_num, HO', HF'⟩
            case measure => simp [intOf]; omega
          · obtain rfl : k = s.pend.length := by omega
            go_wp2_with (first | (go_at_call 17; refine (held_pending hLw.out.held).mono ?_; rintro e w7 ⟨rfl, rfl⟩) | (go_at_call 25; refine (lh_crash hLw.out HFT.out (by omega) _ (allTo s.pend.length) (keeps_own hO.out) (by rw [allTo_length]; omega) (-1) (by omega) (by omega)).mono ?_; rw [HCR.out]; rintro e w5 ⟨rfl, l5, k5, z5⟩; have L5 := hid l5; clear l5 k5 z5 hLw) | (go_at_call 14; refine (lh_read_all L5.out rfl).mono ?_; rintro e w6 ⟨rfl, rfl⟩) | (go_at_call 25; refine (lh_crash L5.out (by simp [Fits]) (by simp) _ [] ⟨none, 0, rfl, fun h => absurd h (by simp)⟩ (by simp) 0 (by omega) (by omega)).mono ?_; rw [crash_none]; rintro e w7 ⟨rfl, l6, k6, z6⟩; have L6 := hid l6; clear l6 k6 z6 L5) | (go_at_call 14; refine (lh_read_all L6.out rfl).mono ?_; rintro e w8 ⟨rfl, rfl⟩))
            go_ret
            exact ⟨by simp, L6.out.fr.below (Nat.le_refl _) (fun _ h => h)⟩

theorem allSurvive_any (size : Int) (a : Option Addr) (len c : Nat) (xs : List WP) (w : World) (h1 : -9223372036854775808 ≤ size) (h2 : size ≤ 9223372036854775807)
    (hx : Elems w.heap.size w 3 RWP (.slice a len c) xs) : Calls Try.prog 9 #[.int .i64 size, .slice a len c] w (True1 w) := by
  by_cases hl : xs.length ≤ 60
  · exact allSurvive_le size a len c xs w h1 h2 hx hl
  · exact allSurvive_gt size a len c xs w h1 h2 hx (by omega)
end Go.Proofs.Ytlnngeafhinpkaa
