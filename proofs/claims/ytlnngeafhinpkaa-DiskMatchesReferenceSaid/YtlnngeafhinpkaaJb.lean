/- One step of DiskMatchesReference. No condition. -/
import Derived.Test.YtlnngeafhinpkaaJa
import Derived.Deep.RegionHeld
set_option linter.unusedVariables false
set_option linter.unusedSimpArgs false
namespace Go.Proofs.Ytlnngeafhinpkaa
open Go.RowKit


set_option maxRecDepth 100000 in
set_option maxHeartbeats 6400000 in
theorem step_crash {K : Nat → Prop} {w : World} {B bd bv R n j : Nat} {s : St} (h : Two K w B bd bv R n s s) (hb : ∀ k, K k → k < w.heap.size) (hI : Inv n s j) (hj : j ≤ 1000) (x : SP) (kv : Value) (hx : SOk x) (hk : Kp K w kv x.keep)
    (hp : pickF x.call 6 = 5) : Calls Try.prog 19 #[.pointer (some ⟨B, 0, none⟩), .pointer (some ⟨R, 0, none⟩), .agg #[.int .i64 x.call, .int .i64 x.off, .int .i64 x.n, .string x.s, kv]] w (StepR K w B bd bv R n j) := by
  have HPK := hid (pick_any x.call 6 · hx.c1 hx.c2 (by omega) (by omega))
  rw [hp] at HPK
  have HCT := hid (cut_any2 x.s 300 · hx.s (by omega))
  have HCS : Hid ((cutF x.s 300).size ≤ 9223372036854775807) := hid (by have := cutF_size x.s 300; have := hx.s; omega)
  generalize cutF x.s 300 = str at HCT HCS
  have HX := hid hx
  have hpl := hI.pl
  have hlt : w.heap.size < (w.alloc (.cells #[.int .i64 x.call, .int .i64 x.off, .int .i64 x.n, .string x.s, kv] 39)).heap.size := by simp
  have BX := hid (bx_new w x kv)
  have HT := hid (h.box (.cells #[.int .i64 x.call, .int .i64 x.off, .int .i64 x.n, .string x.s, kv] 39))
  have HB : Hid (∀ k, (K k ∨ k = w.heap.size) → k < (w.alloc (.cells #[.int .i64 x.call, .int .i64 x.off, .int .i64 x.n, .string x.s, kv] 39)).heap.size) := hid (by
    rintro k (e | e)
    · have := hb k e; simp; omega
    · simp; omega)
  have F0 : Hid (Fr (fun _ => False) w (w.alloc (.cells #[.int .i64 x.call, .int .i64 x.off, .int .i64 x.n, .string x.s, kv] 39))) := hid ((Fr.refl _ _).alloc _)
  have HI := hid hI
  have HB0 := hid hb
  have HKP := hid hk
  clear h hb hI hx hk hp hlt
  obtain ⟨xc, xo, xn, xs, xk⟩ := x
  dsimp only at *
  obtain ⟨a, c, rfl, hlc, hcm, hxx⟩ := HKP.out
  have hno : a = none → xk.length = 0 := fun e => by
    by_cases h0 : 0 < xk.length
    · obtain ⟨b, o, h1, _⟩ := hxx h0
      rw [e] at h1
      exact absurd h1 (by simp)
    · omega
  clear hxx
  generalize hl : xk.length = l at *
  obtain ⟨d0, d1, d2, d3, d4⟩ := BX.out
  dsimp only at d0 d1 d2 d3 d4
  cases a with
  | none =>
    obtain rfl := hno rfl
    have HMIN : Hid ((min (0 : Int) 100).toNat = min 100 xk.length) := hid (by rw [hl]; rfl)
    have HL := hid hl
    clear hno hl
    have HKK : Hid (∀ wr, Fr (fun k => ¬ K k) w wr → Keeps wr (.slice none (min (0 : Int) 100).toNat c) (xk.take 100)) := hid (fun wr hf => HKP.out.keeps HB0.out hf _ HMIN.out)
    have HTL : Hid ((xk.take 100).length ≤ 1000000) := hid (by rw [List.length_take]; omega)
    have HQ : Hid (s.pend.length ≤ 1000000) := hid (by omega)
    clear HKP HMIN
    go_enter Try.func19, Try.ntmps19
    go_wp2_with (first | (go_at_call 15; refine (HPK.out _).mono ?_; rintro e w1 ⟨rfl, rfl⟩; clear HPK) | (go_at_call 33; refine (two_rcrash HT.out HB.out HQ.out _ (xk.take 100) (HKK.out _ F0.out.none) HTL.out xn HX.out.n1 HX.out.n2).mono ?_; rintro e w2 ⟨rfl, t2, f2⟩; obtain ⟨b0, b1, b2, b3, b4⟩ := BX.out.frame f2 (by simp) (fun hn => hn (.inr rfl)); dsimp only at b0 b1 b2 b3 b4; clear d0 d1 d2 d3 d4; have T2 := hid t2; have F2 := hid f2; clear t2 f2) | (go_at_call 25; refine (two_crash T2.out (fun k hk => Nat.lt_of_lt_of_le (HB.out k hk) F2.out.size) HI.out.fit HQ.out _ (xk.take 100) (HKK.out _ ((F0.out.none (S := fun k => ¬ K k)).then F2.out (fun i hi hn hk => hn (.inl hk)))) HTL.out xn HX.out.n1 HX.out.n2).mono ?_; rintro e w3 ⟨rfl, t3, f3⟩; have T3 := hid t3; have F3 := hid f3; clear t3 f3))
    go_ret
    exact step_end (by simp) F0.out (by simp) T3.out (Inv.crash _ _) (F2.out.trans F3.out)

  | some ad =>
    have HMIN : Hid ((min (l : Int) 100).toNat = min 100 xk.length) := hid (by rw [hl]; omega)
    have HL := hid hl
    clear hno hl
    have HKK : Hid (∀ wr, Fr (fun k => ¬ K k) w wr → Keeps wr (.slice (some ad) (min (l : Int) 100).toNat c) (xk.take 100)) := hid (fun wr hf => HKP.out.keeps HB0.out hf _ HMIN.out)
    have HTL : Hid ((xk.take 100).length ≤ 1000000) := hid (by rw [List.length_take]; omega)
    have HQ : Hid (s.pend.length ≤ 1000000) := hid (by omega)
    clear HKP HMIN
    go_enter Try.func19, Try.ntmps19
    go_wp2_with (first | (go_at_call 15; refine (HPK.out _).mono ?_; rintro e w1 ⟨rfl, rfl⟩; clear HPK) | (go_at_call 33; refine (two_rcrash HT.out HB.out HQ.out _ (xk.take 100) (HKK.out _ F0.out.none) HTL.out xn HX.out.n1 HX.out.n2).mono ?_; rintro e w2 ⟨rfl, t2, f2⟩; obtain ⟨b0, b1, b2, b3, b4⟩ := BX.out.frame f2 (by simp) (fun hn => hn (.inr rfl)); dsimp only at b0 b1 b2 b3 b4; clear d0 d1 d2 d3 d4; have T2 := hid t2; have F2 := hid f2; clear t2 f2) | (go_at_call 25; refine (two_crash T2.out (fun k hk => Nat.lt_of_lt_of_le (HB.out k hk) F2.out.size) HI.out.fit HQ.out _ (xk.take 100) (HKK.out _ ((F0.out.none (S := fun k => ¬ K k)).then F2.out (fun i hi hn hk => hn (.inl hk)))) HTL.out xn HX.out.n1 HX.out.n2).mono ?_; rintro e w3 ⟨rfl, t3, f3⟩; have T3 := hid t3; have F3 := hid f3; clear t3 f3))
    go_ret
    exact step_end (by simp) F0.out (by simp) T3.out (Inv.crash _ _) (F2.out.trans F3.out)

end Go.Proofs.Ytlnngeafhinpkaa
