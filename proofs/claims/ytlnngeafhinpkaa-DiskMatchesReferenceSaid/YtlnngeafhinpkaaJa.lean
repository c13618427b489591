/- One step of DiskMatchesReference. No condition. -/
import Derived.Test.YtlnngeafhinpkaaJ9
import Derived.Deep.RegionHeld
set_option linter.unusedVariables false
set_option linter.unusedSimpArgs false
namespace Go.Proofs.Ytlnngeafhinpkaa
open Go.RowKit


set_option maxRecDepth 100000 in
set_option maxHeartbeats 6400000 in
theorem step_read {K : Nat → Prop} {w : World} {B bd bv R n j : Nat} {s : St} (h : Two K w B bd bv R n s s) (hb : ∀ k, K k → k < w.heap.size) (hI : Inv n s j) (hj : j ≤ 1000) (x : SP) (kv : Value) (hx : SOk x) (hk : Kp K w kv x.keep)
    (hp : pickF x.call 6 = 3) : Calls Try.prog 19 #[.pointer (some ⟨B, 0, none⟩), .pointer (some ⟨R, 0, none⟩), .agg #[.int .i64 x.call, .int .i64 x.off, .int .i64 x.n, .string x.s, kv]] w (StepR K w B bd bv R n j) := by
  have HPK := hid (pick_any x.call 6 · hx.c1 hx.c2 (by omega) (by omega))
  rw [hp] at HPK
  have HCT := hid (cut_any2 x.s 300 · hx.s (by omega))
  have HCS : Hid ((cutF x.s 300).size ≤ 9223372036854775807) := hid (by have := cutF_size x.s 300; have := hx.s; omega)
  generalize cutF x.s 300 = str at HCT HCS
  have HX := hid hx
  have hpl := hI.pl
  have hlt : w.heap.size < (w.alloc (.cells #[.int .i64 x.call, .int .i64 x.off, .int .i64 x.n, .string x.s, kv] 39)).heap.size := by simp
  have BX := hid (bx_new w x kv)
  have HT := hid (h.box (.cells #[.int .i64 x.call, .int .i64 x.off, .int .i64 x.n, .string x.s, kv] 39))
  have HB : Hid (∀ k, (K k ∨ k = w.heap.size) → k < (w.alloc (.cells #[.int .i64 x.call, .int .i64 x.off, .int .i64 x.n, .string x.s, kv] 39)).heap.size) := hid (by
    rintro k (e | e)
    · have := hb k e; simp; omega
    · simp; omega)
  have F0 : Hid (Fr (fun _ => False) w (w.alloc (.cells #[.int .i64 x.call, .int .i64 x.off, .int .i64 x.n, .string x.s, kv] 39))) := hid ((Fr.refl _ _).alloc _)
  have HI := hid hI
  have HKP := hid hk
  clear h hb hI hx hk hp hlt
  obtain ⟨xc, xo, xn, xs, xk⟩ := x
  dsimp only at *
  obtain ⟨d0, d1, d2, d3, d4⟩ := BX.out
  dsimp only at d0 d1 d2 d3 d4
  go_enter Try.func19, Try.ntmps19
  go_wp2_with (first | (go_at_call 15; refine (HPK.out _).mono ?_; rintro e w1 ⟨rfl, rfl⟩; clear HPK) | (go_at_call 14; refine (two_read HT.out xo xn HX.out.o1 HX.out.o2).mono ?_; rintro e w2 ⟨rfl, rfl⟩) | (go_at_call 20; refine (two_rread HT.out HI.out.vis (by omega) xo xn HX.out.o1 HX.out.o2).mono ?_; rintro e w3 ⟨rfl, t3, f3⟩; have T3 := hid t3; have F3 := hid f3; clear t3 f3))
  go_ret
  exact step_end (by simp) F0.out (by simp) T3.out HI.out.up F3.out

set_option maxRecDepth 100000 in
set_option maxHeartbeats 6400000 in
theorem step_cut {K : Nat → Prop} {w : World} {B bd bv R n j : Nat} {s : St} (h : Two K w B bd bv R n s s) (hb : ∀ k, K k → k < w.heap.size) (hI : Inv n s j) (hj : j ≤ 1000) (x : SP) (kv : Value) (hx : SOk x) (hk : Kp K w kv x.keep)
    (hp : pickF x.call 6 = 4) : Calls Try.prog 19 #[.pointer (some ⟨B, 0, none⟩), .pointer (some ⟨R, 0, none⟩), .agg #[.int .i64 x.call, .int .i64 x.off, .int .i64 x.n, .string x.s, kv]] w (StepR K w B bd bv R n j) := by
  have HPK := hid (pick_any x.call 6 · hx.c1 hx.c2 (by omega) (by omega))
  rw [hp] at HPK
  have HCT := hid (cut_any2 x.s 300 · hx.s (by omega))
  have HCS : Hid ((cutF x.s 300).size ≤ 9223372036854775807) := hid (by have := cutF_size x.s 300; have := hx.s; omega)
  generalize cutF x.s 300 = str at HCT HCS
  have HX := hid hx
  have hpl := hI.pl
  have hlt : w.heap.size < (w.alloc (.cells #[.int .i64 x.call, .int .i64 x.off, .int .i64 x.n, .string x.s, kv] 39)).heap.size := by simp
  have BX := hid (bx_new w x kv)
  have HT := hid (h.box (.cells #[.int .i64 x.call, .int .i64 x.off, .int .i64 x.n, .string x.s, kv] 39))
  have HB : Hid (∀ k, (K k ∨ k = w.heap.size) → k < (w.alloc (.cells #[.int .i64 x.call, .int .i64 x.off, .int .i64 x.n, .string x.s, kv] 39)).heap.size) := hid (by
    rintro k (e | e)
    · have := hb k e; simp; omega
    · simp; omega)
  have F0 : Hid (Fr (fun _ => False) w (w.alloc (.cells #[.int .i64 x.call, .int .i64 x.off, .int .i64 x.n, .string x.s, kv] 39))) := hid ((Fr.refl _ _).alloc _)
  have HI := hid hI
  have HKP := hid hk
  clear h hb hI hx hk hp hlt
  obtain ⟨xc, xo, xn, xs, xk⟩ := x
  dsimp only at *
  obtain ⟨d0, d1, d2, d3, d4⟩ := BX.out
  dsimp only at d0 d1 d2 d3 d4
  go_enter Try.func19, Try.ntmps19
  go_wp2_with (first | (go_at_call 15; refine (HPK.out _).mono ?_; rintro e w1 ⟨rfl, rfl⟩; clear HPK))
  first
    | (go_region_held (fun w' : World => w'.cell? ⟨w.heap.size, 2, none⟩ = some (.int .i64 xn)) (first | assumption | go_keep) (first | (go_at_call 24; refine (two_cut (HT.out.frame (S := fun _ => False) ((Fr.refl _ _).drew) (fun _ e => e.elim)) (fun k hk => HB.out k hk) xn).mono ?_; rintro e w2 ⟨rfl, t2, f2⟩; have b1 := (BX.out.frame (((Fr.refl (fun k => ¬ (K k ∨ k = w.heap.size)) (w.alloc (.cells #[.int .i64 xc, .int .i64 xo, .int .i64 xn, .string xs, kv] 39))).drew).trans f2) (by simp) (fun hn => hn (.inr rfl))).2.2.1; dsimp only at b1; have T2 := hid t2; have F2 := hid ((((Fr.refl (fun k => ¬ (K k ∨ k = w.heap.size)) (w.alloc (.cells #[.int .i64 xc, .int .i64 xo, .int .i64 xn, .string xs, kv] 39))).drew).trans f2)); clear t2 f2 HT) | (go_at_call 32; refine (two_rcut T2.out (fun k hk => Nat.lt_of_lt_of_le (HB.out k hk) F2.out.size) xn).mono ?_; rintro e w3 ⟨rfl, t3, f3⟩; have b2 := (World.cell?_of_block (a := ⟨w.heap.size, 2, none⟩) (f3.block w.heap.size (Nat.lt_of_lt_of_le (HB.out _ (.inr rfl)) F2.out.size) (fun hn => hn (.inr rfl)))).trans b1; have T3 := hid t3; have F3 := hid f3; clear t3 f3)))
    | fail
  all_goals
    go_wp2
    go_ret
    exact step_end (by simp) F0.out (by simp) T3.out (HI.out.cut xn HX.out.n2) (F2.out.trans F3.out)
end Go.Proofs.Ytlnngeafhinpkaa
