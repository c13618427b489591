/- StatuteOne's walk. No condition beside the bounds. -/
import Derived.Test.YtfalhljidnpmgaaD6
import Derived.Test.YtfalhljidnpmgaaD2
set_option linter.unusedVariables false
set_option linter.unusedSimpArgs false
namespace Go.Proofs.Ytfalhljidnpmgaa
open Go.RowKit Go.Proofs.Statute Go.Maps

theorem ask_lit (a b c d : Int) (w : World) (ha : I64 a) (hb : I64 b) (hc : I64 c) (hd : I64 d) : Calls Try.prog 11 #[.agg #[.int .i64 a, .int .i64 b, .int .i64 c, .int .i64 d]] w fun e w' => e = .returned (.agg #[.int .i64 (askOf a b c d).thing, .int .i64 (askOf a b c d).says, .int .i64 (askOf a b c d).sec, .int .i64 (askOf a b c d).known]) ∧ Fr (fun _ => False) w w' := ask_any a b c d w ha hb hc hd
theorem made_rb {w : World} {cl rl fl : Value} {ms : List CM} {N : Nat → Prop} {base : Nat} {x : Nums} (h : OB base N w cl rl fl ms (made x)) : RB (fun _ => True) w cl rl fl ms (made x) := h.rb (made_valid x)
theorem Reads.take {α : Type} {K : Nat → Prop} {w : World} {sz : Nat} {enc : α → List Value} {a : Option Addr} {n c : Nat} {xs : List α} (h : Reads K w sz enc (.slice a n c) xs) (k : Nat) (hk : k ≤ xs.length) : Reads K w sz enc (.slice a k c) (xs.take k) := by
  obtain ⟨a', c', e, h1, h2, h3⟩ := h
  injection e with e1 _ e3
  subst e1 e3
  refine ⟨a, c, by rw [List.length_take, Nat.min_eq_left hk], by rw [List.length_take]; omega, h2, fun hp => ?_⟩
  rw [List.length_take] at hp
  obtain ⟨b, o, ea, hb, hl, hx⟩ := h3 (by omega)
  refine ⟨b, o, ea, hb, hl, fun i hi j u hu => ?_⟩
  rw [List.length_take] at hi
  rw [List.getElem_take] at hu
  exact hx i (by omega) j u hu
/-- Blocks whose contents are known. -/
def Mem (bs : List (Nat × Obj)) (w : World) : Prop := ∀ p ∈ bs, w.heap[p.1]? = some p.2
theorem Mem.nil (w : World) : Mem [] w := fun p hp => by simp at hp
theorem Mem.cons {bs : List (Nat × Obj)} {w : World} {b : Nat} {o : Obj} (hb : w.heap[b]? = some o) (h : Mem bs w) : Mem ((b, o) :: bs) w := fun p hp => by
  rcases List.mem_cons.1 hp with rfl | hp
  · exact hb
  · exact h p hp
theorem Mem.get {bs : List (Nat × Obj)} {w : World} (h : Mem bs w) (i : Nat) {b : Nat} {o : Obj} (hi : bs[i]? = some (b, o)) : w.heap[b]? = some o := h _ (List.mem_of_getElem? hi)
theorem Mem.fr {bs : List (Nat × Obj)} {S : Nat → Prop} {w w' : World} (h : Mem bs w) (hf : Fr S w w') (hS : ∀ p ∈ bs, ¬ S p.1) : Mem bs w' := fun p hp => (hf.block _ (row_lt (h p hp)) (hS p hp)).trans (h p hp)
theorem Mem.quiet {bs : List (Nat × Obj)} {w w' : World} (h : Mem bs w) (hf : Fr (fun _ => False) w w') : Mem bs w' := h.fr hf (fun _ _ e => e)
theorem RB.quiet {K : Nat → Prop} {w w' : World} {cl rl fl : Value} {ms : List CM} {c : Rb} (h : RB K w cl rl fl ms c) (hf : Fr (fun _ => False) w w') : RB K w' cl rl fl ms c := h.fr hf (fun _ _ e => e)
theorem NW.quiet {K : Nat → Prop} {w w' : World} {cv rv fv : Value} {x : Nums} (h : NW K w cv rv fv x) (hf : Fr (fun _ => False) w w') : NW K w' cv rv fv x := h.fr hf (fun _ _ e => e)
theorem says_in {q : Qn} (ha : asksB q = true) : 0 ≤ q.says ∧ q.says ≤ 19 := by
  simp only [asksB, inB, Bool.and_eq_true, decide_eq_true_eq] at ha
  omega
theorem check_proof {c : Rb} {q : Qn} (hv : validB c = true) (ha : asksB q = true) : checkB c q ((jdOf c q).truth q.says) ((jdOf c q).proof q.says) = true := by
  unfold checkB
  rw [hv, ha, proof_proves (jd_ok hv) (says_in ha).1 (says_in ha).2]
  rfl
theorem check_len {c : Rb} {q : Qn} {h : Bool} {l : List Fnd} (hc : checkB c q h l = true) : l.length ≤ 20 := by
  unfold checkB at hc
  simp only [Bool.and_eq_true] at hc
  exact proves_len hc.2
theorem check_not {c : Rb} {q : Qn} (hv : validB c = true) (ha : asksB q = true) (l : List Fnd) : checkB c q (!(jdOf c q).truth q.says) l = false := by
  unfold checkB
  rw [hv, ha, proves_not (jd_ok hv)]
  rfl
set_option maxRecDepth 100000 in
set_option maxHeartbeats 12800000 in
theorem one_any {K K2 : Nat → Prop} {w : World} {cv rv fv lv : Value} {x : Nums} {l : List Fnd} (hx : NW K w cv rv fv x) (hr : Reads K2 w 4 encD lv l) (a b c d p0 p1 n0 n1 t0 t1 : Int) (ha : I64 a) (hb : I64 b) (hc : I64 c) (hd : I64 d) (hp0 : I64 p0) (hp1 : I64 p1) (hn0 : I64 n0) (hn1 : I64 n1) (ht0 : I64 t0) (ht1 : I64 t1) :
    Calls Try.prog 3 #[.agg #[cv, rv, fv], .agg #[.int .i64 a, .int .i64 b, .int .i64 c, .int .i64 d], .agg #[.int .i64 p0, .int .i64 p1], .agg #[.int .i64 n0, .int .i64 n1], .agg #[.int .i64 t0, .int .i64 t1], lv] w (Yes true w) := by
  have HN0 := hid (hx.mono (K' := fun k => k < w.heap.size) (fun k hk _ => hk))
  have HL0 := hid (hr.mono (K' := fun k => k < w.heap.size) (fun k hk _ => hk))
  obtain ⟨a1, c1, rfl, _⟩ := hx.hc
  obtain ⟨a2, c2, rfl, _⟩ := hx.hr
  obtain ⟨a3, c3, rfl, _⟩ := hx.hf
  obtain ⟨al, lc, rfl, hlc, hlm, _⟩ := hr
  have HS := hid (fun w => sane_any w)
  have HA := hid (fun w => ask_lit a b c d w ha hb hc hd)
  have B0 := hid (And.intro hp0 (And.intro hn0 ht0))
  have B1 := hid (And.intro hp1 (And.intro hn1 ht1))
  clear hx ha hb hc hd hp0 hp1 hn0 hn1 ht0 ht1
  go_enter Try.func3, Try.ntmps3
  go_upto_region 1 with (fail)
  have h0 : (((((w.alloc (.cells #[.slice a1 x.cs.length c1, .slice a2 x.rs.length c2, .slice a3 x.fs.length c3] 25)).alloc (.cells #[.int .i64 a, .int .i64 b, .int .i64 c, .int .i64 d] 26)).alloc (.cells #[.int .i64 p0, .int .i64 p1] 27)).alloc (.cells #[.int .i64 n0, .int .i64 n1] 27)).alloc (.cells #[.int .i64 t0, .int .i64 t1] 27)).heap[w.heap.size]? = some (.cells #[.slice a1 x.cs.length c1, .slice a2 x.rs.length c2, .slice a3 x.fs.length c3] 25) := tower_old _ _ _ (by simp <;> omega) (tower_old _ _ _ (by simp <;> omega) (tower_old _ _ _ (by simp <;> omega) (tower_old _ _ _ (by simp <;> omega) (tower_new _ _ _ (by simp)))))
  have h1 : (((((w.alloc (.cells #[.slice a1 x.cs.length c1, .slice a2 x.rs.length c2, .slice a3 x.fs.length c3] 25)).alloc (.cells #[.int .i64 a, .int .i64 b, .int .i64 c, .int .i64 d] 26)).alloc (.cells #[.int .i64 p0, .int .i64 p1] 27)).alloc (.cells #[.int .i64 n0, .int .i64 n1] 27)).alloc (.cells #[.int .i64 t0, .int .i64 t1] 27)).heap[w.heap.size + 1]? = some (.cells #[.int .i64 a, .int .i64 b, .int .i64 c, .int .i64 d] 26) := tower_old _ _ _ (by simp <;> omega) (tower_old _ _ _ (by simp <;> omega) (tower_old _ _ _ (by simp <;> omega) (tower_new _ _ _ (by simp))))
  have h2 : (((((w.alloc (.cells #[.slice a1 x.cs.length c1, .slice a2 x.rs.length c2, .slice a3 x.fs.length c3] 25)).alloc (.cells #[.int .i64 a, .int .i64 b, .int .i64 c, .int .i64 d] 26)).alloc (.cells #[.int .i64 p0, .int .i64 p1] 27)).alloc (.cells #[.int .i64 n0, .int .i64 n1] 27)).alloc (.cells #[.int .i64 t0, .int .i64 t1] 27)).heap[w.heap.size + 1 + 1]? = some (.cells #[.int .i64 p0, .int .i64 p1] 27) := tower_old _ _ _ (by simp <;> omega) (tower_old _ _ _ (by simp <;> omega) (tower_new _ _ _ (by simp)))
  have h3 : (((((w.alloc (.cells #[.slice a1 x.cs.length c1, .slice a2 x.rs.length c2, .slice a3 x.fs.length c3] 25)).alloc (.cells #[.int .i64 a, .int .i64 b, .int .i64 c, .int .i64 d] 26)).alloc (.cells #[.int .i64 p0, .int .i64 p1] 27)).alloc (.cells #[.int .i64 n0, .int .i64 n1] 27)).alloc (.cells #[.int .i64 t0, .int .i64 t1] 27)).heap[w.heap.size + 1 + 1 + 1]? = some (.cells #[.int .i64 n0, .int .i64 n1] 27) := tower_old _ _ _ (by simp <;> omega) (tower_new _ _ _ (by simp))
  have h4 : (((((w.alloc (.cells #[.slice a1 x.cs.length c1, .slice a2 x.rs.length c2, .slice a3 x.fs.length c3] 25)).alloc (.cells #[.int .i64 a, .int .i64 b, .int .i64 c, .int .i64 d] 26)).alloc (.cells #[.int .i64 p0, .int .i64 p1] 27)).alloc (.cells #[.int .i64 n0, .int .i64 n1] 27)).alloc (.cells #[.int .i64 t0, .int .i64 t1] 27)).heap[w.heap.size + 1 + 1 + 1 + 1]? = some (.cells #[.int .i64 t0, .int .i64 t1] 27) := tower_new _ _ _ (by simp)
  have F : Hid (Fr (fun _ => False) w (((((w.alloc (.cells #[.slice a1 x.cs.length c1, .slice a2 x.rs.length c2, .slice a3 x.fs.length c3] 25)).alloc (.cells #[.int .i64 a, .int .i64 b, .int .i64 c, .int .i64 d] 26)).alloc (.cells #[.int .i64 p0, .int .i64 p1] 27)).alloc (.cells #[.int .i64 n0, .int .i64 n1] 27)).alloc (.cells #[.int .i64 t0, .int .i64 t1] 27))) := hid (((((Fr.refl _ _).alloc _).alloc _).alloc _).alloc _ |>.alloc _)
  have HN := hid ((HN0.out.quiet F.out).mono (K' := fun _ => True) (fun _ _ _ => trivial))
  have HL := hid ((HL0.out.quiet F.out).mono (K' := fun _ => True) (fun _ _ _ => trivial))
  clear HN0 HL0
  generalize (((((w.alloc (.cells #[.slice a1 x.cs.length c1, .slice a2 x.rs.length c2, .slice a3 x.fs.length c3] 25)).alloc (.cells #[.int .i64 a, .int .i64 b, .int .i64 c, .int .i64 d] 26)).alloc (.cells #[.int .i64 p0, .int .i64 p1] 27)).alloc (.cells #[.int .i64 n0, .int .i64 n1] 27)).alloc (.cells #[.int .i64 t0, .int .i64 t1] 27)) = W at *
  generalize hsz : w.heap.size = b0 at *
  have M := hid (Mem.cons (b := b0 + 1 + 1 + 1 + 1) h4 (Mem.cons (b := b0 + 1 + 1 + 1) h3 (Mem.cons (b := b0 + 1 + 1) h2 (Mem.cons (b := b0 + 1) h1 (Mem.cons (b := b0) h0 (Mem.nil W))))))
  clear h0 h1 h2 h3 h4 hsz
  go_upto_region 3 with (go_at_call 9; refine (HS.out _).mono ?_; rintro e W ⟨rfl, f⟩; have F := hid (F.out.trans f); have HN := hid (HN.out.quiet f); have HL := hid (HL.out.quiet f); have M := hid (M.out.quiet f); clear f)
  have HB := M.out.get 4 rfl
  have x0 := row_cell (l := [_, _, _]) HB 0
  have x1 := row_cell (l := [_, _, _]) HB 1
  have x2 := row_cell (l := [_, _, _]) HB 2
  simp only [List.getElem?_cons_zero, List.getElem?_cons_succ] at x0 x1 x2
  clear HB
  go_upto_region 4 with (go_at_call 10; refine (made_any HN.out).mono ?_; rintro e W ⟨ca, cb, cd, k1, k2, k3, m1, m2, m3, ms, N, rfl, ho, f⟩; have F := hid (F.out.trans f); have HN := hid (HN.out.quiet f); have HL := hid (HL.out.quiet f); have M := hid (M.out.quiet f); have HR := hid (made_rb ho); clear ho; clear f)
  clear x0 x1 x2
  have hnew := heap_alloc_new W (.cells #[.slice ca k1 m1, .slice cb k2 m2, .slice cd k3 m3] 34)
  have f := (Fr.refl (fun _ => False) W).alloc (.cells #[.slice ca k1 m1, .slice cb k2 m2, .slice cd k3 m3] 34)
  have F := hid (F.out.trans f)
  have HL := hid (HL.out.quiet f)
  have M := hid (M.out.quiet f)
  have HR := hid (HR.out.quiet f)
  have M := hid (Mem.cons hnew M.out)
  clear f hnew
  generalize W.alloc (.cells #[.slice ca k1 m1, .slice cb k2 m2, .slice cd k3 m3] 34) = W2 at *
  generalize W.heap.size = bc at *
  have HB := M.out.get 4 rfl
  have x0 := row_cell (l := [_, _, _, _]) HB 0
  have x1 := row_cell (l := [_, _, _, _]) HB 1
  have x2 := row_cell (l := [_, _, _, _]) HB 2
  have x3 := row_cell (l := [_, _, _, _]) HB 3
  simp only [List.getElem?_cons_zero, List.getElem?_cons_succ] at x0 x1 x2 x3
  clear HB
  have HV := hid (made_valid x)
  have HQ := hid (ask_valid a b c d)
  generalize made x = C at *
  generalize askOf a b c d = q at *
  go_upto_region 5 with (go_at_call 11; refine (HA.out _).mono ?_; rintro e W ⟨rfl, f⟩; have F := hid (F.out.trans f); have HL := hid (HL.out.quiet f); have M := hid (M.out.quiet f); have HR := hid (HR.out.quiet f); clear f)
  clear x0 x1 x2 x3
  have hnew := heap_alloc_new W (.cells #[.int .i64 q.thing, .int .i64 q.says, .int .i64 q.sec, .int .i64 q.known] 37)
  have f := (Fr.refl (fun _ => False) W).alloc (.cells #[.int .i64 q.thing, .int .i64 q.says, .int .i64 q.sec, .int .i64 q.known] 37)
  have F := hid (F.out.trans f)
  have HL := hid (HL.out.quiet f)
  have M := hid (M.out.quiet f)
  have HR := hid (HR.out.quiet f)
  have M := hid (Mem.cons hnew M.out)
  clear f hnew
  generalize W.alloc (.cells #[.int .i64 q.thing, .int .i64 q.says, .int .i64 q.sec, .int .i64 q.known] 37) = W2 at *
  generalize W.heap.size = bq at *
  have HB := M.out.get 1 rfl
  have x0 := row_cell (l := [_, _, _]) HB 0
  have x1 := row_cell (l := [_, _, _]) HB 1
  have x2 := row_cell (l := [_, _, _]) HB 2
  simp only [List.getElem?_cons_zero, List.getElem?_cons_succ] at x0 x1 x2
  clear HB
  have HB := M.out.get 0 rfl
  have y0 := row_cell (l := [_, _, _, _]) HB 0
  have y1 := row_cell (l := [_, _, _, _]) HB 1
  have y2 := row_cell (l := [_, _, _, _]) HB 2
  have y3 := row_cell (l := [_, _, _, _]) HB 3
  simp only [List.getElem?_cons_zero, List.getElem?_cons_succ] at y0 y1 y2 y3
  clear HB
  have HC : Hid (checkB C q ((jdOf C q).truth q.says) ((jdOf C q).proof q.says) = true) := hid (check_proof HV.out HQ.out)
  have HPL : Hid (((jdOf C q).proof q.says).length ≤ 20) := hid (check_len HC.out)
  have HNO : Hid (∀ l, checkB C q (!(jdOf C q).truth q.says) l = false) := hid (check_not HV.out HQ.out)
  have HD := hid (decide_c HR.out q HV.out HQ.out _ rfl _ rfl)
  generalize (jdOf C q).truth q.says = T at *
  generalize (jdOf C q).proof q.says = Lp at *
  go_upto_region 6 with (go_at_call 12; refine (HD.out).mono ?_; rintro e W ⟨pa, pn, pc, hn, rfl, ho, f⟩; have F := hid (F.out.trans f); have HL := hid (HL.out.quiet f); have M := hid (M.out.quiet f); have HR := hid (HR.out.quiet f); have HP := hid (reads_D ho hn); clear ho hn HD; clear f)
  clear x0 x1 x2
  clear y0 y1 y2 y3
  have HB := M.out.get 1 rfl
  have x0 := row_cell (l := [_, _, _]) HB 0
  have x1 := row_cell (l := [_, _, _]) HB 1
  have x2 := row_cell (l := [_, _, _]) HB 2
  simp only [List.getElem?_cons_zero, List.getElem?_cons_succ] at x0 x1 x2
  clear HB
  have HB := M.out.get 0 rfl
  have y0 := row_cell (l := [_, _, _, _]) HB 0
  have y1 := row_cell (l := [_, _, _, _]) HB 1
  have y2 := row_cell (l := [_, _, _, _]) HB 2
  have y3 := row_cell (l := [_, _, _, _]) HB 3
  simp only [List.getElem?_cons_zero, List.getElem?_cons_succ] at y0 y1 y2 y3
  clear HB
  go_upto_region 8 with (go_at_call 13; refine (check_c HR.out q T HP.out (by have := HPL.out; omega) true HC.out).mono ?_; rintro e W ⟨rfl, f⟩; have F := hid (F.out.trans f); have HL := hid (HL.out.quiet f); have M := hid (M.out.quiet f); have HR := hid (HR.out.quiet f); have HP := hid (HP.out.quiet f); clear f)
  clear x0 x1 x2
  clear y0 y1 y2 y3
  have HB := M.out.get 4 rfl
  have x0 := row_cell (l := [_, _]) HB 0
  have x1 := row_cell (l := [_, _]) HB 1
  simp only [List.getElem?_cons_zero, List.getElem?_cons_succ] at x0 x1
  clear HB
  have HB := M.out.get 3 rfl
  have y0 := row_cell (l := [_, _]) HB 0
  have y1 := row_cell (l := [_, _]) HB 1
  simp only [List.getElem?_cons_zero, List.getElem?_cons_succ] at y0 y1
  clear HB
  have HB := M.out.get 2 rfl
  have z0 := row_cell (l := [_, _]) HB 0
  have z1 := row_cell (l := [_, _]) HB 1
  simp only [List.getElem?_cons_zero, List.getElem?_cons_succ] at z0 z1
  clear HB
  go_upto_region 9 with (go_at_call 14; refine (bent_any HP.out (by have := HPL.out; omega) p0 n0 t0 B0.out.1 B0.out.2.1 B0.out.2.2).mono ?_; rintro e W ⟨a5, n5, c5, l5, rfl, hn5, hl5, r5, f⟩; have F := hid (F.out.trans f); have HL := hid (HL.out.quiet f); have M := hid (M.out.quiet f); have HR := hid (HR.out.quiet f); have HP := hid (HP.out.quiet f); have HB5 := hid r5; have HN5 := hid hn5; have HL5 := hid hl5; clear r5 hn5 hl5; clear f)
  clear x0 x1
  clear y0 y1
  clear z0 z1
  have HB := M.out.get 4 rfl
  have x0 := row_cell (l := [_, _]) HB 0
  have x1 := row_cell (l := [_, _]) HB 1
  simp only [List.getElem?_cons_zero, List.getElem?_cons_succ] at x0 x1
  clear HB
  have HB := M.out.get 3 rfl
  have y0 := row_cell (l := [_, _]) HB 0
  have y1 := row_cell (l := [_, _]) HB 1
  simp only [List.getElem?_cons_zero, List.getElem?_cons_succ] at y0 y1
  clear HB
  have HB := M.out.get 2 rfl
  have z0 := row_cell (l := [_, _]) HB 0
  have z1 := row_cell (l := [_, _]) HB 1
  simp only [List.getElem?_cons_zero, List.getElem?_cons_succ] at z0 z1
  clear HB
  go_upto_region 10 with (go_at_call 14; refine (bent_any HB5.out (by have := HPL.out; have := HN5.out; have := HL5.out; omega) p1 n1 t1 B1.out.1 B1.out.2.1 B1.out.2.2).mono ?_; rintro e W ⟨a6, n6, c6, l6, rfl, hn6, hl6, r6, f⟩; have F := hid (F.out.trans f); have HL := hid (HL.out.quiet f); have M := hid (M.out.quiet f); have HR := hid (HR.out.quiet f); have HP := hid (HP.out.quiet f); have HB5 := hid (HB5.out.quiet f); have HB6 := hid r6; have HN6 := hid hn6; have HL6 := hid hl6; clear r6 hn6 hl6; clear f)
  clear x0 x1
  clear y0 y1
  clear z0 z1
  go_wp2
  have hm8 : (min (l.length : Int) 8).toNat ≤ l.length ∧ (min (l.length : Int) 8).toNat ≤ 8 := by omega
  generalize (min (l.length : Int) 8).toNat = m8 at hm8 ⊢
  have HT := hid (HL.out.take m8 hm8.1)
  have HTL : Hid ((l.take m8).length ≤ 8) := hid (by rw [List.length_take]; omega)
  generalize l.take m8 = lt at HT HTL
  clear HL
  have hnew := heap_alloc_new W (.cells #[.slice pa pn pc, .slice a5 n5 c5, .slice a6 n6 c6, .slice al m8 lc] 28)
  have f := (Fr.refl (fun _ => False) W).alloc (.cells #[.slice pa pn pc, .slice a5 n5 c5, .slice a6 n6 c6, .slice al m8 lc] 28)
  have F := hid (F.out.trans f)
  have M := hid (M.out.quiet f)
  have HR := hid (HR.out.quiet f)
  have HP := hid (HP.out.quiet f)
  have HB5 := hid (HB5.out.quiet f)
  have HB6 := hid (HB6.out.quiet f)
  have HT := hid (HT.out.quiet f)
  have M := hid (Mem.cons hnew M.out)
  clear f hnew
  generalize W.alloc (.cells #[.slice pa pn pc, .slice a5 n5 c5, .slice a6 n6 c6, .slice al m8 lc] 28) = W2 at *
  generalize W.heap.size = br at *
  go_loopw [21, 71] (fun _ s71 wr => ∃ k : Nat, k ≤ 4 ∧ s71 = .int .i64 k ∧ Hid (Fr (fun _ => False) W2 wr)) (fun _ s71 _ => 4 - (intOf s71).toNat)
  case atStart => exact ⟨0, by omega, rfl, hid (Fr.refl _ _)⟩
  case round =>
    obtain ⟨k, hk, rfl, hF⟩ := hrel
    have F := hid (F.out.trans hF.out)
    have M := hid (M.out.quiet hF.out)
    have HR := hid (HR.out.quiet hF.out)
    have HP := hid (HP.out.quiet hF.out)
    have HB5 := hid (HB5.out.quiet hF.out)
    have HB6 := hid (HB6.out.quiet hF.out)
    have HT := hid (HT.out.quiet hF.out)
    have HB := M.out.get 2 rfl
    have x0 := row_cell (l := [_, _, _]) HB 0
    have x1 := row_cell (l := [_, _, _]) HB 1
    have x2 := row_cell (l := [_, _, _]) HB 2
    simp only [List.getElem?_cons_zero, List.getElem?_cons_succ] at x0 x1 x2
    clear HB
    have HB := M.out.get 1 rfl
    have y0 := row_cell (l := [_, _, _, _]) HB 0
    have y1 := row_cell (l := [_, _, _, _]) HB 1
    have y2 := row_cell (l := [_, _, _, _]) HB 2
    have y3 := row_cell (l := [_, _, _, _]) HB 3
    simp only [List.getElem?_cons_zero, List.getElem?_cons_succ] at y0 y1 y2 y3
    clear HB
    have HB := M.out.get 0 rfl
    have z0 := row_cell (l := [_, _, _, _]) HB 0
    have z1 := row_cell (l := [_, _, _, _]) HB 1
    have z2 := row_cell (l := [_, _, _, _]) HB 2
    have z3 := row_cell (l := [_, _, _, _]) HB 3
    simp only [List.getElem?_cons_zero, List.getElem?_cons_succ] at z0 z1 z2 z3
    clear HB
    have hk5 : k = 0 ∨ k = 1 ∨ k = 2 ∨ k = 3 ∨ k = 4 := by omega
    clear hk
    rcases hk5 with rfl | rfl | rfl | rfl | rfl
    · go_wp2_with (go_at_call 13; refine (check_c HR.out q (!T) HP.out (by have := HPL.out; omega) false (HNO.out _)).mono ?_; rintro e W ⟨rfl, f⟩; have hF := hid (hF.out.trans f); clear f)
      go_roundw
      case rel => exact ⟨1, by omega, by go_num, hF⟩
      case measure => simp [intOf]
    · go_wp2_with (go_at_call 13; refine (check_c HR.out q (!T) HB5.out (by have := HPL.out; have := HN5.out; have := HL5.out; omega) false (HNO.out _)).mono ?_; rintro e W ⟨rfl, f⟩; have hF := hid (hF.out.trans f); clear f)
      go_roundw
      case rel => exact ⟨2, by omega, by go_num, hF⟩
      case measure => simp [intOf]
    · go_wp2_with (go_at_call 13; refine (check_c HR.out q (!T) HB6.out (by have := HPL.out; have := HN5.out; have := HL5.out; have := HN6.out; have := HL6.out; omega) false (HNO.out _)).mono ?_; rintro e W ⟨rfl, f⟩; have hF := hid (hF.out.trans f); clear f)
      go_roundw
      case rel => exact ⟨3, by omega, by go_num, hF⟩
      case measure => simp [intOf]
    · go_wp2_with (go_at_call 13; refine (check_c HR.out q (!T) HT.out (by have := HTL.out; omega) false (HNO.out _)).mono ?_; rintro e W ⟨rfl, f⟩; have hF := hid (hF.out.trans f); clear f)
      go_roundw
      case rel => exact ⟨4, by omega, by go_num, hF⟩
      case measure => simp [intOf]
    · go_wp2
      go_ret
      exact ⟨rfl, F.out⟩
end Go.Proofs.Ytfalhljidnpmgaa
