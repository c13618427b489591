/- One step of DiskMatchesReference. No condition. -/
import Derived.Test.YtlnngeafhinpkaaJ7
import Derived.Deep.RegionHeld
set_option linter.unusedVariables false
set_option linter.unusedSimpArgs false
namespace Go.Proofs.Ytlnngeafhinpkaa
open Go.RowKit

structure SOk (x : SP) : Prop where
  c1 : -9223372036854775808 ≤ x.call
  c2 : x.call ≤ 9223372036854775807
  o1 : -9223372036854775808 ≤ x.off
  o2 : x.off ≤ 9223372036854775807
  n1 : -9223372036854775808 ≤ x.n
  n2 : x.n ≤ 9223372036854775807
  s : x.s.size ≤ 9223372036854775807
def Bx (bx : Nat) (x : SP) (kv : Value) (w : World) : Prop := w.cell? ⟨bx, 0, none⟩ = some (.int .i64 x.call) ∧ w.cell? ⟨bx, 1, none⟩ = some (.int .i64 x.off) ∧ w.cell? ⟨bx, 2, none⟩ = some (.int .i64 x.n) ∧ w.cell? ⟨bx, 3, none⟩ = some (.string x.s) ∧ w.cell? ⟨bx, 4, none⟩ = some kv
theorem bx_new (w : World) (x : SP) (kv : Value) : Bx w.heap.size x kv (w.alloc (.cells #[.int .i64 x.call, .int .i64 x.off, .int .i64 x.n, .string x.s, kv] 39)) := by
  have h := heap_alloc_new w (.cells #[.int .i64 x.call, .int .i64 x.off, .int .i64 x.n, .string x.s, kv] 39)
  refine ⟨?_, ?_, ?_, ?_, ?_⟩ <;> (rw [cell_of_row _ _ _ _ _ _ h]; rfl)
theorem Bx.frame {bx : Nat} {x : SP} {kv : Value} {w w' : World} {S : Nat → Prop} (h : Bx bx x kv w) (hf : Fr S w w') (hb : bx < w.heap.size) (hS : ¬ S bx) : Bx bx x kv w' := by
  have e := hf.block bx hb hS
  have q : ∀ i, w'.cell? ⟨bx, i, none⟩ = w.cell? ⟨bx, i, none⟩ := fun i => World.cell?_of_block e
  exact ⟨(q 0).trans h.1, (q 1).trans h.2.1, (q 2).trans h.2.2.1, (q 3).trans h.2.2.2.1, (q 4).trans h.2.2.2.2⟩
def StepR (K : Nat → Prop) (w : World) (B bd bv R n j : Nat) (e : Ending) (w' : World) : Prop :=
  e = .returned (.bool true) ∧ (∃ s, Two K w' B bd bv R n s s ∧ Inv n s (j + 1)) ∧ Fr (fun k => ¬ K k) w w'
/-- From the world with the box to the caller's. -/
theorem step_end {K : Nat → Prop} {w w1 w' : World} {B bd bv R n j : Nat} {s : St} {r : Value} (hr : r = .bool true) (h0 : Fr (fun _ => False) w w1) (hw : w1.heap.size = w.heap.size + 1) (h : Two (fun k => K k ∨ k = w.heap.size) w' B bd bv R n s s) (hI : Inv n s (j + 1)) (hf : Fr (fun k => ¬ (K k ∨ k = w.heap.size)) w1 w') : StepR K w B bd bv R n j (.returned r) w' :=
  ⟨by rw [hr], ⟨s, h.less (fun _ h => .inl h), hI⟩, (h0.none (S := fun k => ¬ K k)).then hf (fun i hi hn hk => hn (.inl hk))⟩

set_option maxRecDepth 100000 in
set_option maxHeartbeats 6400000 in
theorem step_sync {K : Nat → Prop} {w : World} {B bd bv R n j : Nat} {s : St} (h : Two K w B bd bv R n s s) (hb : ∀ k, K k → k < w.heap.size) (hI : Inv n s j) (hj : j ≤ 1000) (x : SP) (kv : Value) (hx : SOk x) (hk : Kp K w kv x.keep)
    (hp : pickF x.call 6 = 2) : Calls Try.prog 19 #[.pointer (some ⟨B, 0, none⟩), .pointer (some ⟨R, 0, none⟩), .agg #[.int .i64 x.call, .int .i64 x.off, .int .i64 x.n, .string x.s, kv]] w (StepR K w B bd bv R n j) := by
  have HPK := hid (pick_any x.call 6 · hx.c1 hx.c2 (by omega) (by omega))
  rw [hp] at HPK
  have HCT := hid (cut_any2 x.s 300 · hx.s (by omega))
  have HCS : Hid ((cutF x.s 300).size ≤ 9223372036854775807) := hid (by have := cutF_size x.s 300; have := hx.s; omega)
  generalize cutF x.s 300 = str at HCT HCS
  have HX := hid hx
  have hpl := hI.pl
  have hlt : w.heap.size < (w.alloc (.cells #[.int .i64 x.call, .int .i64 x.off, .int .i64 x.n, .string x.s, kv] 39)).heap.size := by simp
  have BX := hid (bx_new w x kv)
  have HT := hid (h.box (.cells #[.int .i64 x.call, .int .i64 x.off, .int .i64 x.n, .string x.s, kv] 39))
  have HB : Hid (∀ k, (K k ∨ k = w.heap.size) → k < (w.alloc (.cells #[.int .i64 x.call, .int .i64 x.off, .int .i64 x.n, .string x.s, kv] 39)).heap.size) := hid (by
    rintro k (e | e)
    · have := hb k e; simp; omega
    · simp; omega)
  have F0 : Hid (Fr (fun _ => False) w (w.alloc (.cells #[.int .i64 x.call, .int .i64 x.off, .int .i64 x.n, .string x.s, kv] 39))) := hid ((Fr.refl _ _).alloc _)
  have HI := hid hI
  have HKP := hid hk
  clear h hb hI hx hk hp hlt
  obtain ⟨xc, xo, xn, xs, xk⟩ := x
  dsimp only at *
  obtain ⟨d0, d1, d2, d3, d4⟩ := BX.out
  dsimp only at d0 d1 d2 d3 d4
  go_enter Try.func19, Try.ntmps19
  go_wp2_with (first | (go_at_call 15; refine (HPK.out _).mono ?_; rintro e w1 ⟨rfl, rfl⟩; clear HPK) | (go_at_call 23; refine (two_sync HT.out HB.out).mono ?_; rintro e w2 ⟨rfl, t2, f2⟩; have T2 := hid t2; have F2 := hid f2; clear t2 f2) | (go_at_call 31; refine (two_rsync T2.out (fun k hk => Nat.lt_of_lt_of_le (HB.out k hk) F2.out.size) HI.out.vis (by omega)).mono ?_; rintro e w3 ⟨rfl, t3, f3⟩; have T3 := hid t3; have F3 := hid f3; clear t3 f3))
  go_ret
  exact step_end (by simp) F0.out (by simp) T3.out HI.out.sync (F2.out.trans F3.out)
end Go.Proofs.Ytlnngeafhinpkaa
