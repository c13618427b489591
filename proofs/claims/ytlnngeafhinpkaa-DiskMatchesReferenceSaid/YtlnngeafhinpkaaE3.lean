/- DiskSynced answers true. No condition. -/
import Derived.Test.YtlnngeafhinpkaaE2
set_option linter.unusedVariables false
set_option linter.unusedSimpArgs false
namespace Go.Proofs.Ytlnngeafhinpkaa
open Go.RowKit

/-- What the loop keeps: the disk shows cur, and x is what is safe. -/
structure Sy (n : Nat) (s : St) (cur : Bs) (x : ByteArray) (j : Nat) : Prop where
  off : s.off = false
  left : s.left = 0
  vis : s.vis = cur
  dur : x = ⟨s.dur.toArray⟩
  fit : Fits n s.pend
  pl : s.pend.length ≤ j
theorem Sy.start (n : Nat) : Sy n (fresh n) (zeros n) ⟨(zeros n).toArray⟩ 0 := ⟨rfl, rfl, rfl, rfl, by simp [fresh, Fits], by simp [fresh]⟩
theorem Sy.wrote {n : Nat} {s : St} {cur : Bs} {x : ByteArray} {j : Nat} (h : Sy n s cur x j) (o : Nat) (str : ByteArray) (hf : o + str.size ≤ n) : Sy n (wrote s o str) (put cur o str.data.toList) x (j + 1) := by
  have hu : Go.Proofs.Ytlnngeafhinpkaa.wrote s o str = { s with vis := put s.vis o str.data.toList, pend := s.pend ++ [(o, str)] } := by
    unfold Go.Proofs.Ytlnngeafhinpkaa.wrote used
    rw [if_pos h.left]
  rw [hu]
  refine ⟨h.off, h.left, by rw [h.vis], h.dur, ?_, by simp; exact h.pl⟩
  intro y hy
  simp only [List.mem_append, List.mem_singleton] at hy
  rcases hy with hy | rfl
  · exact h.fit y hy
  · exact hf
theorem Sy.sync {n : Nat} {s : St} {cur : Bs} {x : ByteArray} {j : Nat} (h : Sy n s cur x j) : (syncS s).1 = 0 ∧ Sy n (syncS s).2 cur ⟨cur.toArray⟩ j := by
  unfold syncS
  rw [if_neg (by simp [h.off])]
  exact ⟨rfl, h.off, h.left, h.vis, by rw [h.vis], by simp [Fits], by simp⟩
/-- Crash that keeps nothing. -/
theorem crash_none (s : St) (torn : Int) : crashS s [] torn = { off := false, left := 0, dur := s.dur, vis := s.dur, pend := [] } := by
  have : ordS s.pend.length [] = [] := by rw [ord_eq]; simp
  unfold crashS
  rw [this]
  rfl
/-- The fields of an element of the writes. -/
theorem writes_at {base : Nat} {w wr : World} {a : Option Addr} {len c : Nat} {xs : List WP} (h : Elems base w 3 RWP (.slice a len c) xs) (hf : Fr (fun k => base ≤ k) w wr) (hb : base ≤ w.heap.size) (j : Nat) (hj : j < xs.length) :
    ∃ b o, a = some ⟨b, o, none⟩ ∧ b < wr.heap.size ∧ wr.cell? ⟨b, o + j * 3, none⟩ = some (.int .i64 xs[j].off) ∧ wr.cell? ⟨b, o + j * 3 + 1, none⟩ = some (.string xs[j].s) ∧ wr.cell? ⟨b, o + j * 3 + 2, none⟩ = some (.bool xs[j].sync) ∧
      -9223372036854775808 ≤ xs[j].off ∧ xs[j].off ≤ 9223372036854775807 ∧ xs[j].s.size ≤ 9223372036854775807 := by
  obtain ⟨a', c', e, h1, h2, h3⟩ := h
  injection e with e1 e2 e3
  subst e1 e3
  obtain ⟨b, o, ha, hbn, hx⟩ := h3 (by omega)
  obtain ⟨cs, ⟨rfl, r1, r2, r3⟩, hl, hc⟩ := hx j xs[j] (by simp [hj])
  have hbl := hf.below hb (fun _ h => h)
  have k := fun i (hi : i < 3) => (hbl.cell (p := ⟨b, o + j * 3 + i, none⟩) hbn).trans (hc i hi)
  exact ⟨b, o, ha, by have := hf.size; omega, k 0 (by omega), k 1 (by omega), k 2 (by omega), r1, r2, r3⟩

set_option maxRecDepth 100000 in
set_option maxHeartbeats 6400000 in
theorem synced_any (size torn : Int) (a : Option Addr) (len c : Nat) (xs : List WP) (w : World) (h1 : -9223372036854775808 ≤ size) (h2 : size ≤ 9223372036854775807) (h3 : -9223372036854775808 ≤ torn) (h4 : torn ≤ 9223372036854775807)
    (hx : Elems w.heap.size w 3 RWP (.slice a len c) xs) : Calls Try.prog 7 #[.int .i64 size, .slice a len c, .int .i64 torn] w (True1 w) := by
  have HX := hid hx
  obtain ⟨a', c', he, hlc, hcm, hrow⟩ := hx
  clear hrow
  injection he with ha hlen hcap
  subst ha hlen hcap
  have hp := pickF_in size 300 (by omega)
  obtain ⟨n', hn'⟩ := Int.eq_ofNat_of_zero_le hp.1
  have HPK := hid (pick_any size 300 · h1 h2 (by omega) (by omega))
  rw [hn'] at HPK hp
  obtain ⟨n, hn⟩ : ∃ n : Nat, n = n' + 1 := ⟨_, rfl⟩
  have HN : Hid (1 + (n' : Int) = (n : Int)) := hid (by omega)
  have hmk := run_make_row' (P := Try.prog) 40 5 (.int .u8 0) 1 rfl info5' rfl .i64 .i64 n (by omega) (by omega)
  have hn1 : 1 ≤ n := by omega
  have hn2 : n ≤ 301 := by omega
  have hn0 : n' ≤ 300 := by omega
  clear hp hn' hn
  go_enter Try.func7, Try.ntmps7
  go_wp2_with (first | (go_at_call 12; refine (sane_any _).mono ?_; rintro e w1 ⟨rfl, b1⟩) | (go_at_call 15; refine (HPK.out _).mono ?_; rintro e w1' ⟨rfl, rfl⟩) | (go_at_call 13; rw [HN.out]; refine (live_new n hn1 (by omega) w1 w.heap.size b1.size).mono ?_; rintro e w2 ⟨B, bd, bv, rfl, hL, f2, b2⟩; have HL := hid hL; clear hL) | (refine list_of rfl (wp_conv_bytes (.tmp 30) 40 9 rfl 5 rfl rfl rfl _ _ _ (by rfl) w2.heap.size 0 (zeros n) 5 (by rw [made_zeros]; exact heap_alloc_new _ _) (fun _ => rfl) (by simp [zeros]) ?_)))
  have HS := hid (Lo.start (Fr.of_below b1) HL.out f2)
  have HZ : Hid (List.take n (zeros n) = zeros n) := hid (by simp [zeros])
  obtain ⟨g, hg⟩ : ∃ g, w2.heap.size = g := ⟨_, rfl⟩
  rw [hg] at HS
  rw [hg, HZ.out]
  clear hg b2 f2 b1 hmk HPK HL
  go_loopw [11, 12] (fun x i wr => ∃ (j : Nat) (s : St) (cur : Bs) (y : ByteArray), j ≤ xs.length ∧ j ≤ 60 ∧ x = .string y ∧ i = .int .i64 j ∧ Hid (Lo (fun _ => False) w wr B bd bv n g s cur) ∧ Hid (Sy n s cur y j)) (fun _ i _ => xs.length - (intOf i).toNat)
  case atStart => exact ⟨0, fresh n, zeros n, _, by omega, by omega, rfl, rfl, HS, hid (Sy.start n)⟩
  case round =>
    obtain ⟨j, s, cur, y, hj, hj60, rfl, rfl, hLo, hSy⟩ := hrel
    clear HS
    have hpl : s.pend.length ≤ 60 := by have := hSy.out.pl; omega
    have hso := hSy.out.off
    have hsl := hSy.out.left
    by_cases hlt : j < xs.length ∧ j < 60
    · obtain ⟨hl1, hl2⟩ := hlt
      obtain ⟨bb, o, ha, hbb, c0, c1, c2, r1, r2, r3⟩ := writes_at HX.out hLo.out.fr (Nat.le_refl _) j hl1
      subst ha
      generalize xs[j] = x at c0 c1 c2 r1 r2 r3
      obtain ⟨xo, xstr, xy⟩ := x
      dsimp only at c0 c1 c2 r1 r2 r3
      obtain ⟨P, str, hPf, hcall⟩ := fits_call xo xstr xy n r1 r2 r3 (by omega)
      have HC := hid hcall
      have HP := hid hPf
      have HSW := hid (hSy.out.wrote P str hPf)
      have HSL : Hid (0 ≤ s.left ∧ s.left ≤ 9223372036854775807) := hid (by omega)
      clear hcall hPf r1 r2 r3
      cases xy with
      | false =>
        go_wp2_with (first | (go_at_call 26; refine (HC.out _).mono ?_; rintro e w3 ⟨rfl, rfl⟩; clear c0 c1 c2) | (go_at_call 27; refine (lo_put (hLo.out.box3 _ _ _) P str HP.out).mono ?_; rintro e w4 ⟨rfl, l4, f4⟩; obtain ⟨d0, d1, d2⟩ := hLo.out.box_put f4; have L4 := hid l4; clear l4 f4) | (go_at_call 21; refine (lo_write L4.out P str HSL.out hso (by omega) HP.out).mono ?_; rintro e w5 ⟨rfl, l5, k5⟩; have kk := cells_of (k5 _ rfl); rw [← kk 2] at d2; have L5 := hid l5; clear l5 kk k5 d0 d1))
        go_roundw
        case rel => exact ⟨j + 1, _, _, y, by omega, by omega, rfl, by go_num, hid L5.out.unbox, HSW⟩
        case measure => simp [intOf]; omega
      | true =>
        have HSY := hid HSW.out.sync
        go_wp2_with (first | (go_at_call 26; refine (HC.out _).mono ?_; rintro e w3 ⟨rfl, rfl⟩; clear c0 c1 c2) | (go_at_call 27; refine (lo_put (hLo.out.box3 _ _ _) P str HP.out).mono ?_; rintro e w4 ⟨rfl, l4, f4⟩; obtain ⟨d0, d1, d2⟩ := hLo.out.box_put f4; have L4 := hid l4; clear l4 f4) | (go_at_call 21; refine (lo_write L4.out P str HSL.out hso (by omega) HP.out).mono ?_; rintro e w5 ⟨rfl, l5, k5⟩; have kk := cells_of (k5 _ rfl); rw [← kk 2] at d2; have L5 := hid l5; clear l5 kk k5 d0 d1) | (go_at_call 23; refine (lo_sync L5.out).mono ?_; rw [HSY.out.1]; rintro e w6 ⟨rfl, l6, k6⟩; have kk := cells_of (k6 _ rfl); rw [← kk 2] at d2; have L6 := hid l6; clear l6 kk k6 L5) | (refine list_of rfl (wp_conv_bytes (.tmp 72) 40 9 rfl 5 rfl rfl rfl _ _ _ (by rfl) g 0 (put cur P str.data.toList) 5 L6.out.row (fun _ => rfl) (by have := L6.out.lc; omega) ?_); have hlc6 := L6.out.lc; rw [List.drop_zero, List.take_of_length_le (Nat.le_of_eq hlc6)]; clear hlc6))
        go_roundw
        case rel => exact ⟨j + 1, _, _, _, by omega, by omega, rfl, by go_num, hid L6.out.unbox, hid HSY.out.2⟩
        case measure => simp [intOf]; omega
    · have HRD : Hid (readS { off := false, left := 0, dur := s.dur, vis := s.dur, pend := [] } n 0 n = (y, 0)) := by
        obtain ⟨pv, hD, _⟩ := hLo.out.held
        rw [read_all _ _ rfl (show s.dur.length = n from hD.ld), hSy.out.dur]
        exact hid rfl
      have HFB := hid hLo.out.fr
      by_cases hl3 : j < xs.length
      · have hl4 : ¬ j < 60 := by omega
        clear hlt
        go_wp2_with (first | (go_at_call 25; refine (lo_crash hLo.out hSy.out.fit (by omega) _ [] ⟨none, 0, rfl, fun h => absurd h (by simp)⟩ (by simp) torn h3 h4).mono ?_; rw [crash_none]; rintro e w3 ⟨rfl, l3, k3⟩; have L3 := hid l3; clear l3 k3) | (go_at_call 14; refine (lo_read L3.out 0 n (by omega) (by omega)).mono ?_; rw [HRD.out]; rintro e w4 ⟨rfl, rfl⟩) | (go_at_call 17; refine (held_pending L3.out.held).mono ?_; rintro e w5 ⟨rfl, rfl⟩))
        go_ret
        exact ⟨by simp, L3.out.fr.below (Nat.le_refl _) (fun _ h => h)⟩
      · go_wp2_with (first | (go_at_call 25; refine (lo_crash hLo.out hSy.out.fit (by omega) _ [] ⟨none, 0, rfl, fun h => absurd h (by simp)⟩ (by simp) torn h3 h4).mono ?_; rw [crash_none]; rintro e w3 ⟨rfl, l3, k3⟩; have L3 := hid l3; clear l3 k3) | (go_at_call 14; refine (lo_read L3.out 0 n (by omega) (by omega)).mono ?_; rw [HRD.out]; rintro e w4 ⟨rfl, rfl⟩) | (go_at_call 17; refine (held_pending L3.out.held).mono ?_; rintro e w5 ⟨rfl, rfl⟩))
        go_ret
        exact ⟨by simp, L3.out.fr.below (Nat.le_refl _) (fun _ h => h)⟩
end Go.Proofs.Ytlnngeafhinpkaa
