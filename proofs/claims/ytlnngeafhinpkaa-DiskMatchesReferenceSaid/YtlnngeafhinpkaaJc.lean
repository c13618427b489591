/- DiskMatchesReference answers true. No condition. -/
import Derived.Test.YtlnngeafhinpkaaJb
import Derived.Deep.RegionHeld
set_option linter.unusedVariables false
set_option linter.unusedSimpArgs false
namespace Go.Proofs.Ytlnngeafhinpkaa
open Go.RowKit

theorem step_any {K : Nat → Prop} {w : World} {B bd bv R n j : Nat} {s : St} (h : Two K w B bd bv R n s s) (hb : ∀ k, K k → k < w.heap.size) (hI : Inv n s j) (hj : j ≤ 1000) (x : SP) (kv : Value) (hx : SOk x) (hk : Kp K w kv x.keep) :
    Calls Try.prog 19 #[.pointer (some ⟨B, 0, none⟩), .pointer (some ⟨R, 0, none⟩), .agg #[.int .i64 x.call, .int .i64 x.off, .int .i64 x.n, .string x.s, kv]] w (StepR K w B bd bv R n j) := by
  have hp := pickF_in x.call 6 (by omega)
  have : pickF x.call 6 = 0 ∨ pickF x.call 6 = 1 ∨ pickF x.call 6 = 2 ∨ pickF x.call 6 = 3 ∨ pickF x.call 6 = 4 ∨ pickF x.call 6 = 5 := by omega
  rcases this with h0 | h0 | h0 | h0 | h0 | h0
  · exact step_write0 h hb hI hj x kv hx hk h0
  · exact step_write1 h hb hI hj x kv hx hk h0
  · exact step_sync h hb hI hj x kv hx hk h0
  · exact step_read h hb hI hj x kv hx hk h0
  · exact step_cut h hb hI hj x kv hx hk h0
  · exact step_crash h hb hI hj x kv hx hk h0

theorem steps_at {w wr : World} {a : Option Addr} {len c : Nat} {xs : List SP} (h : Elems w.heap.size w 5 RSP (.slice a len c) xs) (hf : Fr (fun k => ¬ k < w.heap.size) w wr) (j : Nat) (hj : j < xs.length) :
    ∃ b o kv, a = some ⟨b, o, none⟩ ∧ b < w.heap.size ∧ wr.cell? ⟨b, o + j * 5, none⟩ = some (.int .i64 xs[j].call) ∧ wr.cell? ⟨b, o + j * 5 + 1, none⟩ = some (.int .i64 xs[j].off) ∧ wr.cell? ⟨b, o + j * 5 + 2, none⟩ = some (.int .i64 xs[j].n) ∧ wr.cell? ⟨b, o + j * 5 + 3, none⟩ = some (.string xs[j].s) ∧ wr.cell? ⟨b, o + j * 5 + 4, none⟩ = some kv ∧
      SOk xs[j] ∧ Kp (fun k => k < w.heap.size) wr kv xs[j].keep := by
  obtain ⟨a', c', e, h1, h2, h3⟩ := h
  injection e with e1 e2 e3
  subst e1 e3
  obtain ⟨b, o, ha, hbn, hx⟩ := h3 (by omega)
  obtain ⟨cs, ⟨kv, rfl, hkv, r1, r2, r3, r4⟩, hl, hc⟩ := hx j xs[j] (by simp [hj])
  have q : ∀ b i, b < w.heap.size → wr.cell? ⟨b, i, none⟩ = w.cell? ⟨b, i, none⟩ := fun b i hb => World.cell?_of_block (a := ⟨b, i, none⟩) (hf.block b hb (fun hn => hn hb))
  refine ⟨b, o, kv, ha, hbn, (q b _ hbn).trans (hc 0 (by omega)), (q b _ hbn).trans (hc 1 (by omega)), (q b _ hbn).trans (hc 2 (by omega)), (q b _ hbn).trans (hc 3 (by omega)), (q b _ hbn).trans (hc 4 (by omega)), ⟨r1.1, r1.2, r2.1, r2.2, r3.1, r3.2, r4⟩, ?_⟩
  obtain ⟨ka, kc, ke, k1, k2, k3⟩ := hkv
  refine ⟨ka, kc, ke, k1, k2, fun hp => ?_⟩
  obtain ⟨kb, ko, kea, kbn, kx⟩ := k3 hp
  refine ⟨kb, ko, kea, kbn, fun i hi => ?_⟩
  obtain ⟨cs, ⟨rfl, _⟩, _, kc⟩ := kx i _ (List.getElem?_eq_getElem hi)
  have := kc 0 (by omega)
  rw [q kb _ kbn]
  simpa [hi] using this

theorem two_new {base : Nat} {w1 w2 w3 : World} {B bd bv R g n : Nat} (hb : base ≤ w1.heap.size) (h : IsDisk w2 B bd bv (.slice none 0 0) n (fresh n)) (f1 : Fr (fun _ => False) w1 w2) (b1 : w1.heap.size ≤ B) (b2 : w1.heap.size ≤ bd) (b3 : w1.heap.size ≤ bv)
    (hr : IsRef w3 R (.slice (some ⟨g, 0, none⟩) n n) (.slice none 0 0) n (fresh n)) (f2 : Fr (fun _ => False) w2 w3) (b4 : w2.heap.size ≤ R) (b5 : w2.heap.size ≤ g) : Two (fun k => k < base) w3 B bd bv R n (fresh n) (fresh n) := by
  have hs := f1.size
  refine ⟨_, _, _, h.frame f2 (fun _ _ e => e), hr, ?_, ?_⟩
  · intro k hk
    have hlt := h.lt k hk
    refine ⟨?_, ?_⟩
    · rcases hk with e | e | e | e
      · omega
      · omega
      · omega
      · simp [Value.ownBlock] at e
    · rintro (e | e | e)
      · omega
      · simp [Value.ownBlock] at e
        omega
      · simp [Value.ownBlock] at e
  · rintro k (e | e | e)
    · omega
    · simp [Value.ownBlock] at e
      omega
    · simp [Value.ownBlock] at e

set_option maxRecDepth 100000 in
set_option maxHeartbeats 6400000 in
theorem matchesRef_any (size : Int) (a : Option Addr) (len c : Nat) (xs : List SP) (w : World) (h1 : -9223372036854775808 ≤ size) (h2 : size ≤ 9223372036854775807)
    (hx : Elems w.heap.size w 5 RSP (.slice a len c) xs) : Calls Try.prog 4 #[.int .i64 size, .slice a len c] w (True1 w) := by
  have HX := hid hx
  obtain ⟨a', c', he, hlc, hcm, hrow⟩ := hx
  clear hrow
  injection he with ha hlen hcap
  subst ha hlen hcap
  have hp := pickF_in size 400 (by omega)
  obtain ⟨n', hn'⟩ := Int.eq_ofNat_of_zero_le hp.1
  have HPK := hid (pick_any size 400 · h1 h2 (by omega) (by omega))
  rw [hn'] at HPK hp
  obtain ⟨n, hn⟩ : ∃ n : Nat, n = n' + 1 := ⟨_, rfl⟩
  have HN : Hid (1 + (n' : Int) = (n : Int)) := hid (by omega)
  have hn1 : 1 ≤ n := by omega
  have hn2 : n ≤ 401 := by omega
  have hn0 : n' ≤ 400 := by omega
  clear hp hn' hn
  go_enter Try.func4, Try.ntmps4
  go_wp2_with (first | (go_at_call 12; refine (sane_any _).mono ?_; rintro e w1 ⟨rfl, b1⟩) | (go_at_call 15; refine (HPK.out _).mono ?_; rintro e w1' ⟨rfl, rfl⟩; clear HPK) | (go_at_call 13; rw [HN.out]; refine (new_ok n hn1 (by omega) w1).mono ?_; rintro e w2 ⟨B, bd, bv, rfl, hd, f1, q1, q2, q3⟩; have HD := hid hd; have F1 := hid f1; clear hd f1) | (go_at_call 18; refine (rnew_ok n hn1 (by omega) w2).mono ?_; rintro e w3 ⟨R, g, rfl, hr, f2, q4, q5⟩; have HT := hid (two_new b1.size HD.out F1.out q1 q2 q3 hr f2 q4 q5); have F3 := hid (((Fr.of_below b1).mono (T := fun k => ¬ k < w.heap.size) (fun k _ e => by omega)).trans (F1.out.none.trans f2.none)); clear hr f2 q1 q2 q3 q4 q5 HD F1))
  clear b1
  go_loopw [10] (fun i wr => ∃ (j : Nat) (s : St), j ≤ xs.length ∧ j ≤ 60 ∧ i = .int .i64 j ∧ Hid (Two (fun k => k < w.heap.size) wr B bd bv R n s s) ∧ Hid (Inv n s j) ∧ Hid (Fr (fun k => ¬ k < w.heap.size) w wr)) (fun i _ => xs.length - (intOf i).toNat)
  case atStart => exact ⟨0, fresh n, by omega, by omega, rfl, HT, hid (Inv.start n), F3⟩
  case round =>
    clear HT F3
    obtain ⟨j, s, hj, hj60, rfl, hT, hI, hF⟩ := hrel
    by_cases hlt : j < xs.length ∧ j < 60
    · obtain ⟨hl1, hl2⟩ := hlt
      obtain ⟨bb, o, kv, ha, hbb, c0, c1, c2, c3, c4, hok, hkp⟩ := steps_at HX.out hF.out j hl1
      subst ha
      generalize xs[j] = x at c0 c1 c2 c3 c4 hok hkp
      have HB : Hid (∀ k, k < w.heap.size → k < wr.heap.size) := hid (fun k hk => Nat.lt_of_lt_of_le hk hF.out.size)
      have HS := hid (step_any (hT.out.frame (S := fun _ => False) (Fr.refl _ wr).drew (fun _ e => e.elim)) HB.out hI.out (by omega) x kv hok (w := wr.drew) (by obtain ⟨ka, kc, ke, k1, k2, k3⟩ := hkp; exact ⟨ka, kc, ke, k1, k2, k3⟩))
      clear hok hkp
      obtain ⟨xc, xo, xn, xs', xk⟩ := x
      dsimp only at c0 c1 c2 c3 c4 HS
      have c0' : wr.drew.cell? ⟨bb, o + j * 5, none⟩ = some (.int .i64 xc) := c0
      have c1' : wr.drew.cell? ⟨bb, o + j * 5 + 1, none⟩ = some (.int .i64 xo) := c1
      have c2' : wr.drew.cell? ⟨bb, o + j * 5 + 2, none⟩ = some (.int .i64 xn) := c2
      have c3' : wr.drew.cell? ⟨bb, o + j * 5 + 3, none⟩ = some (.string xs') := c3
      have c4' : wr.drew.cell? ⟨bb, o + j * 5 + 4, none⟩ = some kv := c4
      go_wp2
      go_region_with (first | (go_at_call 19; refine HS.out.mono ?_; rintro e w5 ⟨rfl, ⟨s5, t5, i5⟩, f5⟩; obtain ⟨ra, rc, r1⟩ := t5.c1; have T5 := hid t5; have I5 := hid i5; have F5 := hid f5; clear t5 i5 f5 HS c0 c1 c2 c3 c4 c0' c1' c2' c3' c4') | (go_at_call 17; refine (two_pending T5.out).mono ?_; rintro e w6 ⟨rfl, rfl⟩) | (go_at_call 16; refine (two_size T5.out).mono ?_; rintro e w7 ⟨rfl, rfl⟩))
      all_goals
        have HJ : Hid (s5.pend.length ≤ 1000000) := hid (by have := I5.out.pl; omega)
        go_wp2_with (first | (go_at_call 14; refine (two_read T5.out 0 n (by omega) (by omega)).mono ?_; rintro e w6 ⟨rfl, rfl⟩) | (go_at_call 20; refine (two_rread T5.out I5.out.vis HJ.out 0 n (by omega) (by omega)).mono ?_; rintro e w8 ⟨rfl, t8, f8⟩; have T8 := hid t8; have F8 := hid f8; clear t8 f8))
        go_roundw
        case rel => exact ⟨j + 1, s5, by omega, by omega, by go_num, T8, I5, hid ((hF.out.trans ((Fr.refl _ _).drew.trans F5.out)).trans F8.out)⟩
        case measure => simp [intOf]; omega
    · have hcase : (j < xs.length ∧ ¬ j < 60) ∨ ¬ j < xs.length := by omega
      clear hlt
      rcases hcase with ⟨hl3, hl4⟩ | hl3
      all_goals
        go_wp2
        go_ret
        exact ⟨by simp, hF.out.below (Nat.le_refl _) (fun k hk => by omega)⟩
end Go.Proofs.Ytlnngeafhinpkaa
