/- The chapter's examples hold. No condition. -/
import Derived.Test.YtfalhljidnpmgaaD5
import Derived.Deep.DeepCutAuto
set_option linter.unusedVariables false
set_option linter.unusedSimpArgs false
namespace Go.Proofs.Ytfalhljidnpmgaa
open Go.RowKit Go.Proofs.Statute Go.Maps

def Yes (v : Bool) (w : World) (e : Ending) (w' : World) : Prop := e = .returned (.bool v) ∧ Fr (fun _ => False) w w'
theorem same_t {K K2 : Nat → Prop} {w : World} {v u : Value} {xs ys : List Fnd} (hx : Reads K w 4 encD v xs) (hy : Reads K2 w 4 encD u ys) (e : xs = ys) (hl : xs.length ≤ 1000000) : Calls Try.prog 23 #[v, u] w (Yes true w) := by
  subst e
  refine (same_any hx hy hl hl).mono fun e w' h => ?_
  rw [decide_eq_true rfl] at h
  exact h
theorem ints_t {K K2 : Nat → Prop} {w : World} {v u : Value} {xs ys : List Int} (hx : Reads K w 1 encI v xs) (hy : Reads K2 w 1 encI u ys) (e : xs = ys) (hl : xs.length ≤ 1000000) : Calls Try.prog 24 #[v, u] w (Yes true w) := by
  subst e
  refine (ints_any hx hy hl hl).mono fun e w' h => ?_
  rw [decide_eq_true rfl] at h
  exact h
theorem check_c {K K2 : Nat → Prop} {w : World} {cl rl fl lv : Value} {ms : List CM} {c : Rb} {l : List Fnd} (h : RB K w cl rl fl ms c) (q : Qn) (hh : Bool) (hr : Reads K2 w 4 encD lv l) (hl : l.length ≤ 1000000) (v : Bool) (hv : checkB c q hh l = v) :
    Calls Try.prog 13 #[.agg #[cl, rl, fl], .agg (qcells q), .bool hh, lv] w (Yes v w) := by
  subst hv
  exact check_any h q hh hr hl
theorem fresh_one (w : World) (x : Fnd) : Reads (fun _ => True) (w.alloc (.cells #[.int .i64 x.says, .bool x.holds, .int .i64 x.fact, .int .i64 x.clause] 63)) 4 encD (.slice (some ⟨w.heap.size, 0, none⟩) 1 1) [x] := reads_one_new w x
theorem fresh_i1 (w : World) (x : Int) : Reads (fun _ => True) (w.alloc (.cells #[.int .i64 x] 3)) 1 encI (.slice (some ⟨w.heap.size, 0, none⟩) 1 1) [x] := reads_new (enc := encI) w x 3 rfl
theorem fresh_i2 (w : World) (x y : Int) : Reads (fun _ => True) (w.alloc (.cells #[.int .i64 x, .int .i64 y] 3)) 1 encI (.slice (some ⟨w.heap.size, 0, none⟩) 2 2) [x, y] := reads_lit (sz := 1) (enc := encI) (fun _ => rfl) (by decide) [x, y] rfl (heap_alloc_new w _) (by simp)
theorem fresh_d3 (w : World) (x y z : Fnd) : Reads (fun _ => True) (w.alloc (.cells #[.int .i64 x.says, .bool x.holds, .int .i64 x.fact, .int .i64 x.clause, .int .i64 y.says, .bool y.holds, .int .i64 y.fact, .int .i64 y.clause, .int .i64 z.says, .bool z.holds, .int .i64 z.fact, .int .i64 z.clause] 63)) 4 encD (.slice (some ⟨w.heap.size, 0, none⟩) 3 3) [x, y, z] := reads_lit (sz := 4) (enc := encD) (fun _ => rfl) (by decide) [x, y, z] rfl (heap_alloc_new w _) (by simp)
theorem Reads.quiet {α : Type} {K : Nat → Prop} {w w' : World} {sz : Nat} {enc : α → List Value} {v : Value} {xs : List α} (h : Reads K w sz enc v xs) (hf : Fr (fun _ => False) w w') : Reads K w' sz enc v xs := h.fr hf (fun _ _ e => e)
theorem reads_D {w : World} {base n : Nat} {v : Value} {xs : List Fnd} (h : w.ownsRow base 63 4 v n (dcells xs)) (hn : n = xs.length) : Reads (fun _ => True) w 4 encD v xs := by
  subst hn
  exact own_reads (enc := encD) (fun _ => rfl) h (fun _ _ => trivial)
theorem rb_zero (W : World) : RB (fun _ => True) (W.alloc (.cells #[.int .i64 0, .int .i64 0, .int .i64 0, .slice none 0 0, .slice none 0 0, .int .i64 0] 51)) (.slice (some ⟨W.heap.size, 0, none⟩) 1 1) (.slice none 0 0) (.slice none 0 0) [⟨⟨0, 0, 0, [], [], 0⟩, .slice none 0 0, .slice none 0 0⟩] ⟨[⟨0, 0, 0, [], [], 0⟩], [], []⟩ := by
  refine ⟨rfl, reads_lit (sz := 6) (enc := encC) (fun _ => rfl) (by decide) [_] rfl (heap_alloc_new W _) (by simp), fun m hm => ?_, Reads.nil, Reads.nil, fun m hm => ?_, fun x hx => by simp at hx, by simp, by simp, by simp⟩
  · simp at hm
    subst hm
    exact ⟨Reads.nil, Reads.nil⟩
  · simp at hm
    subst hm
    simp [I64]
theorem SaneSt.cells {b : Nat} {w : World} {cl rl fl : Value} {ms : List CM} (h : SaneSt b w cl rl fl ms) :
    (w.cell? ⟨b, 0, none⟩ = some cl ∧ w.cell? ⟨b, 1, none⟩ = some rl ∧ w.cell? ⟨b, 2, none⟩ = some fl) ∧
    (w.cell? ⟨b + 1, 0, none⟩ = some (.int .i64 7) ∧ w.cell? ⟨b + 1, 1, none⟩ = some (.int .i64 3) ∧ w.cell? ⟨b + 1, 2, none⟩ = some (.int .i64 400) ∧ w.cell? ⟨b + 1, 3, none⟩ = some (.int .i64 400)) ∧
    (w.cell? ⟨b + 1 + 1, 0, none⟩ = some (.int .i64 7) ∧ w.cell? ⟨b + 1 + 1, 1, none⟩ = some (.int .i64 3) ∧ w.cell? ⟨b + 1 + 1, 2, none⟩ = some (.int .i64 700) ∧ w.cell? ⟨b + 1 + 1, 3, none⟩ = some (.int .i64 650)) :=
  ⟨⟨row_cell (l := [_, _, _]) h.h1 0, row_cell (l := [_, _, _]) h.h1 1, row_cell (l := [_, _, _]) h.h1 2⟩,
   ⟨row_cell (l := [_, _, _, _]) h.h2 0, row_cell (l := [_, _, _, _]) h.h2 1, row_cell (l := [_, _, _, _]) h.h2 2, row_cell (l := [_, _, _, _]) h.h2 3⟩,
   ⟨row_cell (l := [_, _, _, _]) h.h3 0, row_cell (l := [_, _, _, _]) h.h3 1, row_cell (l := [_, _, _, _]) h.h3 2, row_cell (l := [_, _, _, _]) h.h3 3⟩⟩
set_option maxRecDepth 100000 in
set_option maxHeartbeats 12800000 in
theorem sane_any (w : World) : Calls Try.prog 9 #[] w (Yes true w) := by
  have HX := hid (example_any w)
  go_enter Try.func9, Try.ntmps9
  go_upto_region 2 with (go_at_call 21; refine HX.out.mono ?_; rintro e w1 ⟨b1, b2, ms, rfl, hr, hm, f1⟩; have HR := hid hr; have F := hid f1; have HM := hid hm; clear hr f1 hm)
  clear HX
  go_upto_region 4 with (fail)
  have St : Hid (SaneSt w1.heap.size (((w1.alloc (.cells #[.slice (some ⟨b1, 0, none⟩) 2 2, .slice none 0 0, .slice (some ⟨b2, 0, none⟩) 2 2] 34)).alloc (.cells #[.int .i64 7, .int .i64 3, .int .i64 400, .int .i64 400] 37)).alloc (.cells #[.int .i64 7, .int .i64 3, .int .i64 700, .int .i64 650] 37)) (.slice (some ⟨b1, 0, none⟩) 2 2) (.slice none 0 0) (.slice (some ⟨b2, 0, none⟩) 2 2) ms) := hid ⟨HR.out.fr ((((Fr.refl (fun _ => False) w1).alloc _).alloc _).alloc _) (fun _ _ e => e), tower_old _ _ _ (by simp <;> omega) (tower_old _ _ _ (by simp <;> omega) (tower_new _ _ _ rfl)), tower_old _ _ _ (by simp <;> omega) (tower_new _ _ _ (by simp)), tower_new _ _ _ (by simp)⟩
  have F := hid (F.out.trans ((((Fr.refl (fun _ => False) w1).alloc (.cells #[.slice (some ⟨b1, 0, none⟩) 2 2, .slice none 0 0, .slice (some ⟨b2, 0, none⟩) 2 2] 34)).alloc (.cells #[.int .i64 7, .int .i64 3, .int .i64 400, .int .i64 400] 37)).alloc (.cells #[.int .i64 7, .int .i64 3, .int .i64 700, .int .i64 650] 37)))
  generalize w1.heap.size = b at St ⊢
  generalize ((w1.alloc (.cells #[.slice (some ⟨b1, 0, none⟩) 2 2, .slice none 0 0, .slice (some ⟨b2, 0, none⟩) 2 2] 34)).alloc (.cells #[.int .i64 7, .int .i64 3, .int .i64 400, .int .i64 400] 37)).alloc (.cells #[.int .i64 7, .int .i64 3, .int .i64 700, .int .i64 650] 37) = W at St F ⊢
  clear HR HM
  obtain ⟨⟨c0, c1, c2⟩, ⟨d0, d1, d2, d3⟩, ⟨g0, g1, g2, g3⟩⟩ := St.out.cells
  have HD := hid (decide_c St.out.rb (exq 400 400) ex_valid rfl true ex1.1 exFirst ex1.2)
  go_upto_region 5 with (go_at_call 12; refine HD.out.mono ?_; clear HD; rintro e W ⟨a, n, cc, hn, rfl, ho, f⟩; have St := hid (St.out.fr f); have F := hid (F.out.trans f); clear f; have L1 := hid (reads_D ho hn); clear ho hn)
  clear c0 c1 c2 d0 d1 d2 d3 g0 g1 g2 g3
  obtain ⟨⟨c0, c1, c2⟩, ⟨d0, d1, d2, d3⟩, ⟨g0, g1, g2, g3⟩⟩ := St.out.cells
  have HD := hid (decide_c St.out.rb (exq 700 650) ex_valid rfl false ex2.1 exSecond ex2.2)
  go_upto_region 6 with (go_at_call 12; refine HD.out.mono ?_; clear HD; rintro e W ⟨a, n, cc, hn, rfl, ho, f⟩; have St := hid (St.out.fr f); have F := hid (F.out.trans f); have L1 := hid (L1.out.quiet f); clear f; have L2 := hid (reads_D ho hn); clear ho hn)
  clear c0 c1 c2 d0 d1 d2 d3 g0 g1 g2 g3
  obtain ⟨⟨c0, c1, c2⟩, ⟨d0, d1, d2, d3⟩, ⟨g0, g1, g2, g3⟩⟩ := St.out.cells
  have HD := hid (decide_c St.out.rb (exq 700 550) ex_valid rfl true ex3 _ rfl)
  go_upto_region 7 with (go_at_call 12; refine HD.out.mono ?_; clear HD; rintro e W ⟨a, n, cc, hn, rfl, ho, f⟩; have St := hid (St.out.fr f); have F := hid (F.out.trans f); have L1 := hid (L1.out.quiet f); have L2 := hid (L2.out.quiet f); clear f; clear ho hn)
  clear c0 c1 c2 d0 d1 d2 d3 g0 g1 g2 g3
  obtain ⟨⟨c0, c1, c2⟩, ⟨d0, d1, d2, d3⟩, ⟨g0, g1, g2, g3⟩⟩ := St.out.cells
  have HD := hid (decide_c St.out.rb (exq 199 650) ex_valid rfl false ex4.1 exThird ex4.2)
  go_upto_region 8 with (go_at_call 12; refine HD.out.mono ?_; clear HD; rintro e W ⟨a, n, cc, hn, rfl, ho, f⟩; have St := hid (St.out.fr f); have F := hid (F.out.trans f); have L1 := hid (L1.out.quiet f); have L2 := hid (L2.out.quiet f); clear f; have L4 := hid (reads_D ho hn); clear ho hn)
  clear c0 c1 c2 d0 d1 d2 d3 g0 g1 g2 g3
  obtain ⟨⟨c0, c1, c2⟩, ⟨d0, d1, d2, d3⟩, ⟨g0, g1, g2, g3⟩⟩ := St.out.cells
  have HD := hid (decide_c St.out.rb (exq 400 120) ex_valid rfl false ex5 _ rfl)
  go_upto_region 9 with (go_at_call 12; refine HD.out.mono ?_; clear HD; rintro e W ⟨a, n, cc, hn, rfl, ho, f⟩; have St := hid (St.out.fr f); have F := hid (F.out.trans f); have L1 := hid (L1.out.quiet f); have L2 := hid (L2.out.quiet f); have L4 := hid (L4.out.quiet f); clear f; clear ho hn)
  clear c0 c1 c2 d0 d1 d2 d3 g0 g1 g2 g3
  obtain ⟨⟨c0, c1, c2⟩, ⟨d0, d1, d2, d3⟩, ⟨g0, g1, g2, g3⟩⟩ := St.out.cells
  go_upto_region 11 with (fail)
  have h34 : ((W.alloc (.cells #[.slice (some ⟨b1, 0, none⟩) 2 2, .slice (some ⟨W.heap.size + 1, 0, none⟩) 1 1, .slice (some ⟨b2, 0, none⟩) 2 2] 34)).alloc (.cells #[.int .i64 0, .int .i64 350, .int .i64 300] 55)).heap[W.heap.size]? = some (.cells #[.slice (some ⟨b1, 0, none⟩) 2 2, .slice (some ⟨W.heap.size + 1, 0, none⟩) 1 1, .slice (some ⟨b2, 0, none⟩) 2 2] 34 (0, 0)) := tower_old _ _ _ (by simp <;> omega) (tower_new _ _ _ rfl)
  have h55 : ((W.alloc (.cells #[.slice (some ⟨b1, 0, none⟩) 2 2, .slice (some ⟨W.heap.size + 1, 0, none⟩) 1 1, .slice (some ⟨b2, 0, none⟩) 2 2] 34)).alloc (.cells #[.int .i64 0, .int .i64 350, .int .i64 300] 55)).heap[W.heap.size + 1]? = some (.cells #[.int .i64 0, .int .i64 350, .int .i64 300] 55) := tower_new _ _ _ (by simp)
  have f : Fr (fun _ => False) W ((W.alloc (.cells #[.slice (some ⟨b1, 0, none⟩) 2 2, .slice (some ⟨W.heap.size + 1, 0, none⟩) 1 1, .slice (some ⟨b2, 0, none⟩) 2 2] 34)).alloc (.cells #[.int .i64 0, .int .i64 350, .int .i64 300] 55)) := ((Fr.refl (fun _ => False) W).alloc (.cells #[.slice (some ⟨b1, 0, none⟩) 2 2, .slice (some ⟨W.heap.size + 1, 0, none⟩) 1 1, .slice (some ⟨b2, 0, none⟩) 2 2] 34)).alloc (.cells #[.int .i64 0, .int .i64 350, .int .i64 300] 55)
  have St := hid (St.out.fr f)
  have F := hid (F.out.trans f)
  have L1 := hid (L1.out.quiet f)
  have L2 := hid (L2.out.quiet f)
  have L4 := hid (L4.out.quiet f)
  have RR := hid (reads_lit (sz := 3) (enc := encR) (fun _ => rfl) (by decide) [⟨0, 350, 300⟩] rfl h55 (by simp))
  clear f h55
  generalize (W.alloc (.cells #[.slice (some ⟨b1, 0, none⟩) 2 2, .slice (some ⟨W.heap.size + 1, 0, none⟩) 1 1, .slice (some ⟨b2, 0, none⟩) 2 2] 34)).alloc (.cells #[.int .i64 0, .int .i64 350, .int .i64 300] 55) = W2 at *
  generalize W.heap.size + 1 = b5 at *
  generalize W.heap.size = b4 at *
  have HB4 := hid h34
  clear h34
  have e0 := row_cell (l := [_, _, _]) HB4.out 0
  have e1 := row_cell (l := [_, _, _]) HB4.out 1
  have e2 := row_cell (l := [_, _, _]) HB4.out 2
  simp only [List.getElem?_cons_zero, List.getElem?_cons_succ] at e0 e1 e2
  have RBR := hid (show RB (fun _ => True) W2 (.slice (some ⟨b1, 0, none⟩) 2 2) (.slice (some ⟨b5, 0, none⟩) 1 1) (.slice (some ⟨b2, 0, none⟩) 2 2) ms exR from ⟨St.out.rb.cls, St.out.rb.hc, St.out.rb.hn, RR.out, St.out.rb.hf, St.out.rb.b1, St.out.rb.b2, St.out.rb.l1, by simp [exR], St.out.rb.l3⟩)
  clear c0 c1 c2 d0 d1 d2 d3 g0 g1 g2 g3
  obtain ⟨⟨c0, c1, c2⟩, ⟨d0, d1, d2, d3⟩, ⟨g0, g1, g2, g3⟩⟩ := St.out.cells
  have HD := hid (decide_c RBR.out (exq 400 400) exR_valid rfl false ex6 _ rfl)
  go_upto_region 12 with (go_at_call 12; refine HD.out.mono ?_; clear HD; rintro e W ⟨a, n, cc, hn, rfl, ho, f⟩; have St := hid (St.out.fr f); have F := hid (F.out.trans f); have L1 := hid (L1.out.quiet f); have L2 := hid (L2.out.quiet f); have L4 := hid (L4.out.quiet f); clear f; clear ho hn)
  clear RBR RR e0 e1 e2 HB4
  clear c0 c1 c2 d0 d1 d2 d3 g0 g1 g2 g3
  obtain ⟨⟨c0, c1, c2⟩, ⟨d0, d1, d2, d3⟩, ⟨g0, g1, g2, g3⟩⟩ := St.out.cells
  have HD := hid (uses_ok St.out.rb (exq 700 650) L2.out ex_valid rfl false ex7.1 (fun _ => ex7.2))
  go_upto_region 13 with (go_at_call 18; refine HD.out.mono ?_; clear HD; rintro e W ⟨a, b9, n1, n2, m1, m2, hn1, hn2, rfl, o1, o2, f⟩; have St := hid (St.out.fr f); have F := hid (F.out.trans f); have L1 := hid (L1.out.quiet f); have L2 := hid (L2.out.quiet f); have L4 := hid (L4.out.quiet f); clear f; have U1 := hid (reads_ints (K := fun _ => True) o1 (by rw [hn1]) (fun _ _ => trivial)); have U2 := hid (reads_ints (K := fun _ => True) o2 (by rw [hn2]) (fun _ _ => trivial)); clear o1 o2 hn1 hn2)
  clear c0 c1 c2 d0 d1 d2 d3 g0 g1 g2 g3
  obtain ⟨⟨c0, c1, c2⟩, ⟨d0, d1, d2, d3⟩, ⟨g0, g1, g2, g3⟩⟩ := St.out.cells
  have HD := hid (applies_ok St.out.rb (exq 400 400) ex_valid rfl)
  go_upto_region 14 with (go_at_call 22; refine HD.out.mono ?_; clear HD; rintro e W ⟨fv, gv, rfl, o1, o2, _, f⟩; have St := hid (St.out.fr f); have F := hid (F.out.trans f); have L1 := hid (L1.out.quiet f); have L2 := hid (L2.out.quiet f); have L4 := hid (L4.out.quiet f); have U1 := hid (U1.out.quiet f); have U2 := hid (U2.out.quiet f); clear f; have U3 := hid (reads_ints (K := fun _ => True) o1 (by simp [nats]) (fun _ _ => trivial)); have U4 := hid (reads_ints (K := fun _ => True) o2 (by simp [nats]) (fun _ _ => trivial)); obtain ⟨a3, m3, rfl, _, _⟩ := own_shape o1; obtain ⟨a4, m4, rfl, _, _⟩ := own_shape o2; clear o1 o2)
  clear c0 c1 c2 d0 d1 d2 d3 g0 g1 g2 g3
  obtain ⟨⟨c0, c1, c2⟩, ⟨d0, d1, d2, d3⟩, ⟨g0, g1, g2, g3⟩⟩ := St.out.cells
  go_upto_region 18 with (fail)
  have X1 := hid ((fresh_d3 W ⟨0, true, 0, -1⟩ ⟨2, false, -1, -1⟩ ⟨3, true, -1, 0⟩).quiet ((Fr.refl (fun _ => False) _).alloc (.cells #[.int .i64 1, .bool false, .int .i64 (-1), .int .i64 (-1), .int .i64 2, .bool true, .int .i64 1, .int .i64 (-1), .int .i64 3, .bool false, .int .i64 (-1), .int .i64 (-1)] 63)))
  have X2 := hid (fresh_d3 (W.alloc (.cells #[.int .i64 0, .bool true, .int .i64 0, .int .i64 (-1), .int .i64 2, .bool false, .int .i64 (-1), .int .i64 (-1), .int .i64 3, .bool true, .int .i64 (-1), .int .i64 0] 63)) ⟨1, false, -1, -1⟩ ⟨2, true, 1, -1⟩ ⟨3, false, -1, -1⟩)
  rw [show (W.alloc (.cells #[.int .i64 0, .bool true, .int .i64 0, .int .i64 (-1), .int .i64 2, .bool false, .int .i64 (-1), .int .i64 (-1), .int .i64 3, .bool true, .int .i64 (-1), .int .i64 0] 63)).heap.size = W.heap.size + 1 by simp] at X2
  have f : Fr (fun _ => False) W ((W.alloc (.cells #[.int .i64 0, .bool true, .int .i64 0, .int .i64 (-1), .int .i64 2, .bool false, .int .i64 (-1), .int .i64 (-1), .int .i64 3, .bool true, .int .i64 (-1), .int .i64 0] 63)).alloc (.cells #[.int .i64 1, .bool false, .int .i64 (-1), .int .i64 (-1), .int .i64 2, .bool true, .int .i64 1, .int .i64 (-1), .int .i64 3, .bool false, .int .i64 (-1), .int .i64 (-1)] 63)) := ((Fr.refl (fun _ => False) W).alloc (.cells #[.int .i64 0, .bool true, .int .i64 0, .int .i64 (-1), .int .i64 2, .bool false, .int .i64 (-1), .int .i64 (-1), .int .i64 3, .bool true, .int .i64 (-1), .int .i64 0] 63)).alloc (.cells #[.int .i64 1, .bool false, .int .i64 (-1), .int .i64 (-1), .int .i64 2, .bool true, .int .i64 1, .int .i64 (-1), .int .i64 3, .bool false, .int .i64 (-1), .int .i64 (-1)] 63)
  have St := hid (St.out.fr f); have F := hid (F.out.trans f); have L1 := hid (L1.out.quiet f); have L2 := hid (L2.out.quiet f); have L4 := hid (L4.out.quiet f); have U1 := hid (U1.out.quiet f); have U2 := hid (U2.out.quiet f); have U3 := hid (U3.out.quiet f); have U4 := hid (U4.out.quiet f); clear f
  dsimp only at X1 X2
  generalize (W.alloc (.cells #[.int .i64 0, .bool true, .int .i64 0, .int .i64 (-1), .int .i64 2, .bool false, .int .i64 (-1), .int .i64 (-1), .int .i64 3, .bool true, .int .i64 (-1), .int .i64 0] 63)).alloc (.cells #[.int .i64 1, .bool false, .int .i64 (-1), .int .i64 (-1), .int .i64 2, .bool true, .int .i64 1, .int .i64 (-1), .int .i64 3, .bool false, .int .i64 (-1), .int .i64 (-1)] 63) = W3 at *
  generalize W.heap.size + 1 = b5 at *
  generalize W.heap.size = b4 at *
  clear c0 c1 c2 d0 d1 d2 d3 g0 g1 g2 g3
  obtain ⟨⟨c0, c1, c2⟩, ⟨d0, d1, d2, d3⟩, ⟨g0, g1, g2, g3⟩⟩ := St.out.cells
  have T1 := hid trivial
  have T2 := hid trivial
  go_upto_region 19 with (first | (go_at_call 23; clear T1; refine (same_t L1.out X1.out rfl (by decide)).mono ?_; rintro e W ⟨rfl, f⟩; have St := hid (St.out.fr f); have F := hid (F.out.trans f); have L1 := hid (L1.out.quiet f); have L2 := hid (L2.out.quiet f); have L4 := hid (L4.out.quiet f); have U1 := hid (U1.out.quiet f); have U2 := hid (U2.out.quiet f); have U3 := hid (U3.out.quiet f); have U4 := hid (U4.out.quiet f); have X1 := hid (X1.out.quiet f); have X2 := hid (X2.out.quiet f); clear f; obtain ⟨⟨c0, c1, c2⟩, ⟨d0, d1, d2, d3⟩, ⟨g0, g1, g2, g3⟩⟩ := St.out.cells) | (go_at_call 23; clear T2; refine (same_t L2.out X2.out rfl (by decide)).mono ?_; rintro e W ⟨rfl, f⟩; have St := hid (St.out.fr f); have F := hid (F.out.trans f); have L1 := hid (L1.out.quiet f); have L2 := hid (L2.out.quiet f); have L4 := hid (L4.out.quiet f); have U1 := hid (U1.out.quiet f); have U2 := hid (U2.out.quiet f); have U3 := hid (U3.out.quiet f); have U4 := hid (U4.out.quiet f); have X1 := hid (X1.out.quiet f); have X2 := hid (X2.out.quiet f); clear f; obtain ⟨⟨c0, c1, c2⟩, ⟨d0, d1, d2, d3⟩, ⟨g0, g1, g2, g3⟩⟩ := St.out.cells) | (go_at_call 23; refine (same_t (L4.out.quiet ((Fr.refl (fun _ => False) _).alloc _)) (fresh_one _ ⟨3, false, -1, -1⟩) rfl (by decide)).mono ?_; rintro e W ⟨rfl, f⟩; have f := ((Fr.refl (fun _ => False) _).alloc _).trans f; have St := hid (St.out.fr f); have F := hid (F.out.trans f); have L1 := hid (L1.out.quiet f); have L2 := hid (L2.out.quiet f); have L4 := hid (L4.out.quiet f); have U1 := hid (U1.out.quiet f); have U2 := hid (U2.out.quiet f); have U3 := hid (U3.out.quiet f); have U4 := hid (U4.out.quiet f); have X1 := hid (X1.out.quiet f); have X2 := hid (X2.out.quiet f); clear f; obtain ⟨⟨c0, c1, c2⟩, ⟨d0, d1, d2, d3⟩, ⟨g0, g1, g2, g3⟩⟩ := St.out.cells))
  clear c0 c1 c2 d0 d1 d2 d3 g0 g1 g2 g3
  obtain ⟨⟨c0, c1, c2⟩, ⟨d0, d1, d2, d3⟩, ⟨g0, g1, g2, g3⟩⟩ := St.out.cells
  have S1 := hid trivial
  have S2 := hid trivial
  have S3 := hid trivial
  go_upto_region 20 with (first | (go_at_call 13; clear S1; refine (check_c St.out.rb (exq 400 400) true X1.out (by decide) true ex10.1).mono ?_; rintro e W ⟨rfl, f⟩; have St := hid (St.out.fr f); have F := hid (F.out.trans f); have L1 := hid (L1.out.quiet f); have L2 := hid (L2.out.quiet f); have L4 := hid (L4.out.quiet f); have U1 := hid (U1.out.quiet f); have U2 := hid (U2.out.quiet f); have U3 := hid (U3.out.quiet f); have U4 := hid (U4.out.quiet f); have X1 := hid (X1.out.quiet f); have X2 := hid (X2.out.quiet f); clear f; obtain ⟨⟨c0, c1, c2⟩, ⟨d0, d1, d2, d3⟩, ⟨g0, g1, g2, g3⟩⟩ := St.out.cells) | (go_at_call 13; clear S2; refine (check_c St.out.rb (exq 400 400) false X1.out (by decide) false ex10.2.1).mono ?_; rintro e W ⟨rfl, f⟩; have St := hid (St.out.fr f); have F := hid (F.out.trans f); have L1 := hid (L1.out.quiet f); have L2 := hid (L2.out.quiet f); have L4 := hid (L4.out.quiet f); have U1 := hid (U1.out.quiet f); have U2 := hid (U2.out.quiet f); have U3 := hid (U3.out.quiet f); have U4 := hid (U4.out.quiet f); have X1 := hid (X1.out.quiet f); have X2 := hid (X2.out.quiet f); clear f; obtain ⟨⟨c0, c1, c2⟩, ⟨d0, d1, d2, d3⟩, ⟨g0, g1, g2, g3⟩⟩ := St.out.cells) | (go_at_call 13; clear S3; refine (check_c St.out.rb (exq 700 650) true X1.out (by decide) false ex10.2.2.1).mono ?_; rintro e W ⟨rfl, f⟩; have St := hid (St.out.fr f); have F := hid (F.out.trans f); have L1 := hid (L1.out.quiet f); have L2 := hid (L2.out.quiet f); have L4 := hid (L4.out.quiet f); have U1 := hid (U1.out.quiet f); have U2 := hid (U2.out.quiet f); have U3 := hid (U3.out.quiet f); have U4 := hid (U4.out.quiet f); have X1 := hid (X1.out.quiet f); have X2 := hid (X2.out.quiet f); clear f; obtain ⟨⟨c0, c1, c2⟩, ⟨d0, d1, d2, d3⟩, ⟨g0, g1, g2, g3⟩⟩ := St.out.cells) | (go_at_call 13; refine (check_c St.out.rb (exq 700 650) false X2.out (by decide) true ex10.2.2.2).mono ?_; rintro e W ⟨rfl, f⟩; have St := hid (St.out.fr f); have F := hid (F.out.trans f); have L1 := hid (L1.out.quiet f); have L2 := hid (L2.out.quiet f); have L4 := hid (L4.out.quiet f); have U1 := hid (U1.out.quiet f); have U2 := hid (U2.out.quiet f); have U3 := hid (U3.out.quiet f); have U4 := hid (U4.out.quiet f); have X1 := hid (X1.out.quiet f); have X2 := hid (X2.out.quiet f); clear f; obtain ⟨⟨c0, c1, c2⟩, ⟨d0, d1, d2, d3⟩, ⟨g0, g1, g2, g3⟩⟩ := St.out.cells))
  clear c0 c1 c2 d0 d1 d2 d3 g0 g1 g2 g3
  obtain ⟨⟨c0, c1, c2⟩, ⟨d0, d1, d2, d3⟩, ⟨g0, g1, g2, g3⟩⟩ := St.out.cells
  have R1 := hid trivial
  have R2 := hid trivial
  have R3 := hid trivial
  go_upto_region 21 with (first | (go_at_call 24; clear R1; refine (ints_t (U1.out.quiet ((Fr.refl (fun _ => False) _).alloc _)) (fresh_i1 _ 1) ex8.1 (by rw [ex8.1]; decide)).mono ?_; rintro e W ⟨rfl, f⟩; have f := ((Fr.refl (fun _ => False) _).alloc _).trans f; have St := hid (St.out.fr f); have F := hid (F.out.trans f); have L1 := hid (L1.out.quiet f); have L2 := hid (L2.out.quiet f); have L4 := hid (L4.out.quiet f); have U1 := hid (U1.out.quiet f); have U2 := hid (U2.out.quiet f); have U3 := hid (U3.out.quiet f); have U4 := hid (U4.out.quiet f); have X1 := hid (X1.out.quiet f); have X2 := hid (X2.out.quiet f); clear f; obtain ⟨⟨c0, c1, c2⟩, ⟨d0, d1, d2, d3⟩, ⟨g0, g1, g2, g3⟩⟩ := St.out.cells) | (go_at_call 24; clear R2; refine (ints_t (U2.out.quiet ((Fr.refl (fun _ => False) _).alloc _)) (fresh_i2 _ 0 1) ex8.2 (by rw [ex8.2]; decide)).mono ?_; rintro e W ⟨rfl, f⟩; have f := ((Fr.refl (fun _ => False) _).alloc _).trans f; have St := hid (St.out.fr f); have F := hid (F.out.trans f); have L1 := hid (L1.out.quiet f); have L2 := hid (L2.out.quiet f); have L4 := hid (L4.out.quiet f); have U1 := hid (U1.out.quiet f); have U2 := hid (U2.out.quiet f); have U3 := hid (U3.out.quiet f); have U4 := hid (U4.out.quiet f); have X1 := hid (X1.out.quiet f); have X2 := hid (X2.out.quiet f); clear f; obtain ⟨⟨c0, c1, c2⟩, ⟨d0, d1, d2, d3⟩, ⟨g0, g1, g2, g3⟩⟩ := St.out.cells) | (go_at_call 24; clear R3; refine (ints_t (U3.out.quiet ((Fr.refl (fun _ => False) _).alloc _)) (fresh_i1 _ 0) (by rw [ex9.1]; rfl) (by rw [ex9.1]; decide)).mono ?_; rintro e W ⟨rfl, f⟩; have f := ((Fr.refl (fun _ => False) _).alloc _).trans f; have St := hid (St.out.fr f); have F := hid (F.out.trans f); have L1 := hid (L1.out.quiet f); have L2 := hid (L2.out.quiet f); have L4 := hid (L4.out.quiet f); have U1 := hid (U1.out.quiet f); have U2 := hid (U2.out.quiet f); have U3 := hid (U3.out.quiet f); have U4 := hid (U4.out.quiet f); have X1 := hid (X1.out.quiet f); have X2 := hid (X2.out.quiet f); clear f; obtain ⟨⟨c0, c1, c2⟩, ⟨d0, d1, d2, d3⟩, ⟨g0, g1, g2, g3⟩⟩ := St.out.cells) | (go_at_call 24; refine (ints_t (U4.out.quiet ((Fr.refl (fun _ => False) _).alloc _)) (fresh_i2 _ 0 1) (by rw [ex9.2]; rfl) (by rw [ex9.2]; decide)).mono ?_; rintro e W ⟨rfl, f⟩; have f := ((Fr.refl (fun _ => False) _).alloc _).trans f; have St := hid (St.out.fr f); have F := hid (F.out.trans f); have L1 := hid (L1.out.quiet f); have L2 := hid (L2.out.quiet f); have L4 := hid (L4.out.quiet f); have U1 := hid (U1.out.quiet f); have U2 := hid (U2.out.quiet f); have U3 := hid (U3.out.quiet f); have U4 := hid (U4.out.quiet f); have X1 := hid (X1.out.quiet f); have X2 := hid (X2.out.quiet f); clear f; obtain ⟨⟨c0, c1, c2⟩, ⟨d0, d1, d2, d3⟩, ⟨g0, g1, g2, g3⟩⟩ := St.out.cells))
  clear c0 c1 c2 d0 d1 d2 d3 g0 g1 g2 g3
  obtain ⟨⟨c0, c1, c2⟩, ⟨d0, d1, d2, d3⟩, ⟨g0, g1, g2, g3⟩⟩ := St.out.cells
  have V1 := hid trivial
  have V2 := hid trivial
  have V3 := hid trivial
  go_wp2_with (first | (go_at_call 25; clear V1; refine (valid_b St.out.rb true ex_valid).mono ?_; rintro e W ⟨rfl, f⟩; have St := hid (St.out.fr f); have F := hid (F.out.trans f); have L1 := hid (L1.out.quiet f); have L2 := hid (L2.out.quiet f); have L4 := hid (L4.out.quiet f); have U1 := hid (U1.out.quiet f); have U2 := hid (U2.out.quiet f); have U3 := hid (U3.out.quiet f); have U4 := hid (U4.out.quiet f); have X1 := hid (X1.out.quiet f); have X2 := hid (X2.out.quiet f); clear f; obtain ⟨⟨c0, c1, c2⟩, ⟨d0, d1, d2, d3⟩, ⟨g0, g1, g2, g3⟩⟩ := St.out.cells) | (go_at_call 25; clear V2; refine (valid_b (rb_zero _) false ex11).mono ?_; rintro e W ⟨rfl, f⟩; have f := ((Fr.refl (fun _ => False) _).alloc _).trans f; have St := hid (St.out.fr f); have F := hid (F.out.trans f); have L1 := hid (L1.out.quiet f); have L2 := hid (L2.out.quiet f); have L4 := hid (L4.out.quiet f); have U1 := hid (U1.out.quiet f); have U2 := hid (U2.out.quiet f); have U3 := hid (U3.out.quiet f); have U4 := hid (U4.out.quiet f); have X1 := hid (X1.out.quiet f); have X2 := hid (X2.out.quiet f); clear f; obtain ⟨⟨c0, c1, c2⟩, ⟨d0, d1, d2, d3⟩, ⟨g0, g1, g2, g3⟩⟩ := St.out.cells) | (go_at_call 26; clear V3; refine (asks_b (exq 400 400) _ true rfl).mono ?_; rintro e W ⟨rfl, f⟩; have St := hid (St.out.fr f); have F := hid (F.out.trans f); have L1 := hid (L1.out.quiet f); have L2 := hid (L2.out.quiet f); have L4 := hid (L4.out.quiet f); have U1 := hid (U1.out.quiet f); have U2 := hid (U2.out.quiet f); have U3 := hid (U3.out.quiet f); have U4 := hid (U4.out.quiet f); have X1 := hid (X1.out.quiet f); have X2 := hid (X2.out.quiet f); clear f; obtain ⟨⟨c0, c1, c2⟩, ⟨d0, d1, d2, d3⟩, ⟨g0, g1, g2, g3⟩⟩ := St.out.cells) | (go_at_call 26; refine (asks_b ⟨0, 0, -1, 0⟩ _ false rfl).mono ?_; rintro e W ⟨rfl, f⟩; have St := hid (St.out.fr f); have F := hid (F.out.trans f); have L1 := hid (L1.out.quiet f); have L2 := hid (L2.out.quiet f); have L4 := hid (L4.out.quiet f); have U1 := hid (U1.out.quiet f); have U2 := hid (U2.out.quiet f); have U3 := hid (U3.out.quiet f); have U4 := hid (U4.out.quiet f); have X1 := hid (X1.out.quiet f); have X2 := hid (X2.out.quiet f); clear f; obtain ⟨⟨c0, c1, c2⟩, ⟨d0, d1, d2, d3⟩, ⟨g0, g1, g2, g3⟩⟩ := St.out.cells))
  go_ret
  exact ⟨rfl, F.out⟩
end Go.Proofs.Ytfalhljidnpmgaa
