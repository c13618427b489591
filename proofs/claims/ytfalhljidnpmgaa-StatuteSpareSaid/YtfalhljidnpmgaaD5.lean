/- The chapter's examples: the rules, and what is so. No condition. -/
import Derived.Test.YtfalhljidnpmgaaD4
import Derived.Test.YtfalhljidnpmgaaD3
set_option linter.unusedVariables false
set_option linter.unusedSimpArgs false
namespace Go.Proofs.Ytfalhljidnpmgaa
open Go.RowKit Go.Proofs.Statute Go.Maps

theorem reads_lit {α : Type} {sz : Nat} {enc : α → List Value} {w : World} {b : Nat} {t : TypeId} {cs : Array Value} (he : ∀ x, (enc x).length = sz) (hsz : 0 < sz) (xs : List α) (hc : cs = (xs.flatMap enc).toArray) (h : w.heap[b]? = some (.cells cs t (0, 0))) (hl : xs.length ≤ 1000000) :
    Reads (fun _ => True) w sz enc (.slice (some ⟨b, 0, none⟩) xs.length xs.length) xs := by
  subst hc
  refine ⟨_, _, rfl, Nat.le_refl _, by omega, fun _ => ⟨b, 0, rfl, trivial, row_lt h, fun i hi j u hu => ?_⟩⟩
  have hj : j < sz := by
    have := (List.getElem?_eq_some_iff.1 hu).1
    rwa [he] at this
  rw [row_cell h, Nat.zero_add, flat_get he xs i hi j hj]
  exact hu
def exC : Rb := ⟨[⟨100, 200, 1000, [0], [2], 3⟩, ⟨300, 250, 1000, [1], [], 3⟩], [], [⟨7, 0, 0, 1000, 150, 1000⟩, ⟨7, 2, 500, 1000, 600, 1000⟩]⟩
def exR : Rb := ⟨exC.cls, [⟨0, 350, 300⟩], exC.fcs⟩
def exq (a k : Int) : Qn := ⟨7, 3, a, k⟩
def exFirst : List Fnd := [⟨0, true, 0, -1⟩, ⟨2, false, -1, -1⟩, ⟨3, true, -1, 0⟩]
def exSecond : List Fnd := [⟨1, false, -1, -1⟩, ⟨2, true, 1, -1⟩, ⟨3, false, -1, -1⟩]
def exThird : List Fnd := [⟨3, false, -1, -1⟩]
theorem ex_valid : validB exC = true := by kernel_rfl
theorem exR_valid : validB exR = true := by kernel_rfl
theorem ex1 : (jdOf exC (exq 400 400)).truth 3 = true ∧ (jdOf exC (exq 400 400)).proof 3 = exFirst := ⟨by kernel_rfl, by kernel_rfl⟩
theorem ex2 : (jdOf exC (exq 700 650)).truth 3 = false ∧ (jdOf exC (exq 700 650)).proof 3 = exSecond := ⟨by kernel_rfl, by kernel_rfl⟩
theorem ex3 : (jdOf exC (exq 700 550)).truth 3 = true := by kernel_rfl
theorem ex4 : (jdOf exC (exq 199 650)).truth 3 = false ∧ (jdOf exC (exq 199 650)).proof 3 = exThird := ⟨by kernel_rfl, by kernel_rfl⟩
theorem ex5 : (jdOf exC (exq 400 120)).truth 3 = false := by kernel_rfl
theorem ex6 : (jdOf exR (exq 400 400)).truth 3 = false := by kernel_rfl
theorem ex7 : (jdOf exC (exq 700 650)).proves 3 true exSecond = false ∧ (jdOf exC (exq 700 650)).proves 3 false exSecond = true := ⟨by kernel_rfl, by kernel_rfl⟩
theorem ex8 : useF exSecond = [1] ∧ useC (jdOf exC (exq 700 650)) exSecond = [0, 1] := by
  have h1 : useF exSecond = ins [] 1 := by kernel_rfl
  have h2 : useC (jdOf exC (exq 700 650)) exSecond = ins (ins [] 0) 1 := by kernel_rfl
  rw [h1, h2, ins_last [] 1 (by simp) (by simp), ins_last [] 0 (by simp) (by simp), List.nil_append, List.nil_append, ins_last [0] 1 (by simp) (by simp)]
  exact ⟨rfl, rfl⟩
theorem ex9 : factsOf exC (exq 400 400) = [0] ∧ clausesOf exC (exq 400 400) = [0, 1] := ⟨by kernel_rfl, by kernel_rfl⟩
theorem ex10 : checkB exC (exq 400 400) true exFirst = true ∧ checkB exC (exq 400 400) false exFirst = false ∧ checkB exC (exq 700 650) true exFirst = false ∧ checkB exC (exq 700 650) false exSecond = true := ⟨by kernel_rfl, by kernel_rfl, by kernel_rfl, by kernel_rfl⟩
theorem ex11 : validB ⟨[⟨0, 0, 0, [], [], 0⟩], [], []⟩ = false := by kernel_rfl
theorem tower_new (w : World) (o : Obj) (n : Nat) (h : w.heap.size = n) : (w.alloc o).heap[n]? = some o := by
  subst h
  exact heap_alloc_new w o
theorem tower_old (w : World) (o : Obj) (k : Nat) (h : k < w.heap.size) {x : Obj} (hx : w.heap[k]? = some x) : (w.alloc o).heap[k]? = some x := (Below.heap_alloc _ _ _ h).trans hx
set_option maxRecDepth 100000 in
set_option maxHeartbeats 6400000 in
theorem example_any (w : World) : Calls Try.prog 21 #[] w fun e w' => ∃ b1 b2 ms, e = .returned (.agg #[.slice (some ⟨b1, 0, none⟩) 2 2, .slice none 0 0, .slice (some ⟨b2, 0, none⟩) 2 2]) ∧ RB (fun _ => True) w' (.slice (some ⟨b1, 0, none⟩) 2 2) (.slice none 0 0) (.slice (some ⟨b2, 0, none⟩) 2 2) ms exC ∧ ms.length = 2 ∧ Fr (fun _ => False) w w' := by
  go_enter Try.func21, Try.ntmps21
  go_wp2
  have h0 : ((((((w.alloc (.cells #[.slice (some ⟨w.heap.size + 1 + 1 + 1 + 1, 0, none⟩) 2 2, .slice none 0 0, .slice (some ⟨w.heap.size + 1 + 1 + 1 + 1 + 1, 0, none⟩) 2 2] 34)).alloc (.cells #[.int .i64 0] 3)).alloc (.cells #[.int .i64 2] 3)).alloc (.cells #[.int .i64 1] 3)).alloc (.cells #[.int .i64 100, .int .i64 200, .int .i64 1000, .slice (some ⟨w.heap.size + 1, 0, none⟩) 1 1, .slice (some ⟨w.heap.size + 1 + 1, 0, none⟩) 1 1, .int .i64 3, .int .i64 300, .int .i64 250, .int .i64 1000, .slice (some ⟨w.heap.size + 1 + 1 + 1, 0, none⟩) 1 1, .slice none 0 0, .int .i64 3] 51)).alloc (.cells #[.int .i64 7, .int .i64 0, .int .i64 0, .int .i64 1000, .int .i64 150, .int .i64 1000, .int .i64 7, .int .i64 2, .int .i64 500, .int .i64 1000, .int .i64 600, .int .i64 1000] 57)).heap[w.heap.size]? = some (.cells #[.slice (some ⟨w.heap.size + 1 + 1 + 1 + 1, 0, none⟩) 2 2, .slice none 0 0, .slice (some ⟨w.heap.size + 1 + 1 + 1 + 1 + 1, 0, none⟩) 2 2] 34) := tower_old _ _ _ (by simp <;> omega) (tower_old _ _ _ (by simp <;> omega) (tower_old _ _ _ (by simp <;> omega) (tower_old _ _ _ (by simp <;> omega) (tower_old _ _ _ (by simp <;> omega) (tower_new _ _ _ (by simp))))))
  have h1 : ((((((w.alloc (.cells #[.slice (some ⟨w.heap.size + 1 + 1 + 1 + 1, 0, none⟩) 2 2, .slice none 0 0, .slice (some ⟨w.heap.size + 1 + 1 + 1 + 1 + 1, 0, none⟩) 2 2] 34)).alloc (.cells #[.int .i64 0] 3)).alloc (.cells #[.int .i64 2] 3)).alloc (.cells #[.int .i64 1] 3)).alloc (.cells #[.int .i64 100, .int .i64 200, .int .i64 1000, .slice (some ⟨w.heap.size + 1, 0, none⟩) 1 1, .slice (some ⟨w.heap.size + 1 + 1, 0, none⟩) 1 1, .int .i64 3, .int .i64 300, .int .i64 250, .int .i64 1000, .slice (some ⟨w.heap.size + 1 + 1 + 1, 0, none⟩) 1 1, .slice none 0 0, .int .i64 3] 51)).alloc (.cells #[.int .i64 7, .int .i64 0, .int .i64 0, .int .i64 1000, .int .i64 150, .int .i64 1000, .int .i64 7, .int .i64 2, .int .i64 500, .int .i64 1000, .int .i64 600, .int .i64 1000] 57)).heap[w.heap.size + 1]? = some (.cells #[.int .i64 0] 3) := tower_old _ _ _ (by simp <;> omega) (tower_old _ _ _ (by simp <;> omega) (tower_old _ _ _ (by simp <;> omega) (tower_old _ _ _ (by simp <;> omega) (tower_new _ _ _ (by simp)))))
  have h2 : ((((((w.alloc (.cells #[.slice (some ⟨w.heap.size + 1 + 1 + 1 + 1, 0, none⟩) 2 2, .slice none 0 0, .slice (some ⟨w.heap.size + 1 + 1 + 1 + 1 + 1, 0, none⟩) 2 2] 34)).alloc (.cells #[.int .i64 0] 3)).alloc (.cells #[.int .i64 2] 3)).alloc (.cells #[.int .i64 1] 3)).alloc (.cells #[.int .i64 100, .int .i64 200, .int .i64 1000, .slice (some ⟨w.heap.size + 1, 0, none⟩) 1 1, .slice (some ⟨w.heap.size + 1 + 1, 0, none⟩) 1 1, .int .i64 3, .int .i64 300, .int .i64 250, .int .i64 1000, .slice (some ⟨w.heap.size + 1 + 1 + 1, 0, none⟩) 1 1, .slice none 0 0, .int .i64 3] 51)).alloc (.cells #[.int .i64 7, .int .i64 0, .int .i64 0, .int .i64 1000, .int .i64 150, .int .i64 1000, .int .i64 7, .int .i64 2, .int .i64 500, .int .i64 1000, .int .i64 600, .int .i64 1000] 57)).heap[w.heap.size + 1 + 1]? = some (.cells #[.int .i64 2] 3) := tower_old _ _ _ (by simp <;> omega) (tower_old _ _ _ (by simp <;> omega) (tower_old _ _ _ (by simp <;> omega) (tower_new _ _ _ (by simp))))
  have h3 : ((((((w.alloc (.cells #[.slice (some ⟨w.heap.size + 1 + 1 + 1 + 1, 0, none⟩) 2 2, .slice none 0 0, .slice (some ⟨w.heap.size + 1 + 1 + 1 + 1 + 1, 0, none⟩) 2 2] 34)).alloc (.cells #[.int .i64 0] 3)).alloc (.cells #[.int .i64 2] 3)).alloc (.cells #[.int .i64 1] 3)).alloc (.cells #[.int .i64 100, .int .i64 200, .int .i64 1000, .slice (some ⟨w.heap.size + 1, 0, none⟩) 1 1, .slice (some ⟨w.heap.size + 1 + 1, 0, none⟩) 1 1, .int .i64 3, .int .i64 300, .int .i64 250, .int .i64 1000, .slice (some ⟨w.heap.size + 1 + 1 + 1, 0, none⟩) 1 1, .slice none 0 0, .int .i64 3] 51)).alloc (.cells #[.int .i64 7, .int .i64 0, .int .i64 0, .int .i64 1000, .int .i64 150, .int .i64 1000, .int .i64 7, .int .i64 2, .int .i64 500, .int .i64 1000, .int .i64 600, .int .i64 1000] 57)).heap[w.heap.size + 1 + 1 + 1]? = some (.cells #[.int .i64 1] 3) := tower_old _ _ _ (by simp <;> omega) (tower_old _ _ _ (by simp <;> omega) (tower_new _ _ _ (by simp)))
  have h4 : ((((((w.alloc (.cells #[.slice (some ⟨w.heap.size + 1 + 1 + 1 + 1, 0, none⟩) 2 2, .slice none 0 0, .slice (some ⟨w.heap.size + 1 + 1 + 1 + 1 + 1, 0, none⟩) 2 2] 34)).alloc (.cells #[.int .i64 0] 3)).alloc (.cells #[.int .i64 2] 3)).alloc (.cells #[.int .i64 1] 3)).alloc (.cells #[.int .i64 100, .int .i64 200, .int .i64 1000, .slice (some ⟨w.heap.size + 1, 0, none⟩) 1 1, .slice (some ⟨w.heap.size + 1 + 1, 0, none⟩) 1 1, .int .i64 3, .int .i64 300, .int .i64 250, .int .i64 1000, .slice (some ⟨w.heap.size + 1 + 1 + 1, 0, none⟩) 1 1, .slice none 0 0, .int .i64 3] 51)).alloc (.cells #[.int .i64 7, .int .i64 0, .int .i64 0, .int .i64 1000, .int .i64 150, .int .i64 1000, .int .i64 7, .int .i64 2, .int .i64 500, .int .i64 1000, .int .i64 600, .int .i64 1000] 57)).heap[w.heap.size + 1 + 1 + 1 + 1]? = some (.cells #[.int .i64 100, .int .i64 200, .int .i64 1000, .slice (some ⟨w.heap.size + 1, 0, none⟩) 1 1, .slice (some ⟨w.heap.size + 1 + 1, 0, none⟩) 1 1, .int .i64 3, .int .i64 300, .int .i64 250, .int .i64 1000, .slice (some ⟨w.heap.size + 1 + 1 + 1, 0, none⟩) 1 1, .slice none 0 0, .int .i64 3] 51) := tower_old _ _ _ (by simp <;> omega) (tower_new _ _ _ (by simp))
  have h5 : ((((((w.alloc (.cells #[.slice (some ⟨w.heap.size + 1 + 1 + 1 + 1, 0, none⟩) 2 2, .slice none 0 0, .slice (some ⟨w.heap.size + 1 + 1 + 1 + 1 + 1, 0, none⟩) 2 2] 34)).alloc (.cells #[.int .i64 0] 3)).alloc (.cells #[.int .i64 2] 3)).alloc (.cells #[.int .i64 1] 3)).alloc (.cells #[.int .i64 100, .int .i64 200, .int .i64 1000, .slice (some ⟨w.heap.size + 1, 0, none⟩) 1 1, .slice (some ⟨w.heap.size + 1 + 1, 0, none⟩) 1 1, .int .i64 3, .int .i64 300, .int .i64 250, .int .i64 1000, .slice (some ⟨w.heap.size + 1 + 1 + 1, 0, none⟩) 1 1, .slice none 0 0, .int .i64 3] 51)).alloc (.cells #[.int .i64 7, .int .i64 0, .int .i64 0, .int .i64 1000, .int .i64 150, .int .i64 1000, .int .i64 7, .int .i64 2, .int .i64 500, .int .i64 1000, .int .i64 600, .int .i64 1000] 57)).heap[w.heap.size + 1 + 1 + 1 + 1 + 1]? = some (.cells #[.int .i64 7, .int .i64 0, .int .i64 0, .int .i64 1000, .int .i64 150, .int .i64 1000, .int .i64 7, .int .i64 2, .int .i64 500, .int .i64 1000, .int .i64 600, .int .i64 1000] 57) := tower_new _ _ _ (by simp)
  have hF : Fr (fun _ => False) w ((((((w.alloc (.cells #[.slice (some ⟨w.heap.size + 1 + 1 + 1 + 1, 0, none⟩) 2 2, .slice none 0 0, .slice (some ⟨w.heap.size + 1 + 1 + 1 + 1 + 1, 0, none⟩) 2 2] 34)).alloc (.cells #[.int .i64 0] 3)).alloc (.cells #[.int .i64 2] 3)).alloc (.cells #[.int .i64 1] 3)).alloc (.cells #[.int .i64 100, .int .i64 200, .int .i64 1000, .slice (some ⟨w.heap.size + 1, 0, none⟩) 1 1, .slice (some ⟨w.heap.size + 1 + 1, 0, none⟩) 1 1, .int .i64 3, .int .i64 300, .int .i64 250, .int .i64 1000, .slice (some ⟨w.heap.size + 1 + 1 + 1, 0, none⟩) 1 1, .slice none 0 0, .int .i64 3] 51)).alloc (.cells #[.int .i64 7, .int .i64 0, .int .i64 0, .int .i64 1000, .int .i64 150, .int .i64 1000, .int .i64 7, .int .i64 2, .int .i64 500, .int .i64 1000, .int .i64 600, .int .i64 1000] 57)) := ((((((Fr.refl _ _).alloc _).alloc _).alloc _).alloc _).alloc _).alloc _
  generalize ((((((w.alloc (.cells #[.slice (some ⟨w.heap.size + 1 + 1 + 1 + 1, 0, none⟩) 2 2, .slice none 0 0, .slice (some ⟨w.heap.size + 1 + 1 + 1 + 1 + 1, 0, none⟩) 2 2] 34)).alloc (.cells #[.int .i64 0] 3)).alloc (.cells #[.int .i64 2] 3)).alloc (.cells #[.int .i64 1] 3)).alloc (.cells #[.int .i64 100, .int .i64 200, .int .i64 1000, .slice (some ⟨w.heap.size + 1, 0, none⟩) 1 1, .slice (some ⟨w.heap.size + 1 + 1, 0, none⟩) 1 1, .int .i64 3, .int .i64 300, .int .i64 250, .int .i64 1000, .slice (some ⟨w.heap.size + 1 + 1 + 1, 0, none⟩) 1 1, .slice none 0 0, .int .i64 3] 51)).alloc (.cells #[.int .i64 7, .int .i64 0, .int .i64 0, .int .i64 1000, .int .i64 150, .int .i64 1000, .int .i64 7, .int .i64 2, .int .i64 500, .int .i64 1000, .int .i64 600, .int .i64 1000] 57)) = W at *
  refine bodyPost_ret (v := .agg #[.slice (some ⟨w.heap.size + 1 + 1 + 1 + 1, 0, none⟩) 2 2, .slice none 0 0, .slice (some ⟨w.heap.size + 1 + 1 + 1 + 1 + 1, 0, none⟩) 2 2]) ?_ rfl ⟨_, _, [⟨⟨100, 200, 1000, [0], [2], 3⟩, .slice (some ⟨w.heap.size + 1, 0, none⟩) 1 1, .slice (some ⟨w.heap.size + 1 + 1, 0, none⟩) 1 1⟩, ⟨⟨300, 250, 1000, [1], [], 3⟩, .slice (some ⟨w.heap.size + 1 + 1 + 1, 0, none⟩) 1 1, .slice none 0 0⟩], rfl, ⟨rfl, ?_, ?_, Reads.nil, ?_, ?_, ?_, by simp, by simp [exC], by simp [exC]⟩, rfl, hF⟩
  · have c0 := row_cell (l := [_, _, _]) h0 0
    have c1 := row_cell (l := [_, _, _]) h0 1
    have c2 := row_cell (l := [_, _, _]) h0 2
    simp only [List.getElem?_cons_zero, List.getElem?_cons_succ] at c0 c1 c2
    clear h0 h1 h2 h3 h4 h5
    simp [results, show Try.f21.results = #[.cell 0 34] from rfl, loadVar, go_sem, Try.isAgg34, Try.sizeOf34, asAddr, Result.andThen, c0, c1, c2]
  · exact reads_lit (sz := 6) (fun _ => rfl) (by decide) [_, _] rfl h4 (by simp)
  · intro m hm
    simp only [List.mem_cons, List.not_mem_nil, or_false] at hm
    rcases hm with rfl | rfl
    · exact ⟨reads_lit (sz := 1) (fun _ => rfl) (by decide) [0] rfl h1 (by simp), reads_lit (sz := 1) (fun _ => rfl) (by decide) [2] rfl h2 (by simp)⟩
    · exact ⟨reads_lit (sz := 1) (fun _ => rfl) (by decide) [1] rfl h3 (by simp), Reads.nil⟩
  · exact reads_lit (sz := 6) (fun _ => rfl) (by decide) exC.fcs rfl h5 (by simp [exC])
  · intro m hm
    simp only [List.mem_cons, List.not_mem_nil, or_false] at hm
    rcases hm with rfl | rfl <;> simp [I64]
  · intro m hm
    simp only [exC, List.mem_cons, List.not_mem_nil, or_false] at hm
    rcases hm with rfl | rfl <;> simp [I64]

/-- Decide, at rules at which it is known what is so. -/
theorem decide_c {K : Nat → Prop} {w : World} {cl rl fl : Value} {ms : List CM} {c : Rb} (h : RB K w cl rl fl ms c) (q : Qn) (hv : validB c = true) (ha : asksB q = true) (T : Bool) (hT : (jdOf c q).truth q.says = T) (L : List Fnd) (hL : (jdOf c q).proof q.says = L) :
    Calls Try.prog 12 #[.agg #[cl, rl, fl], .agg (qcells q)] w fun e w' => ∃ a n cc, n = L.length ∧ e = .returned (.tuple #[.bool T, .slice a n cc, .int .i64 0]) ∧ w'.ownsRow w.heap.size 63 4 (.slice a n cc) n (dcells L) ∧ Fr (fun _ => False) w w' := by
  subst hT hL
  refine (decide_ok h q hv ha).mono ?_
  rintro e w' ⟨lv, rfl, h1, h2⟩
  obtain ⟨a, cc, rfl, _, _⟩ := own_shape h1
  exact ⟨a, _, cc, rfl, rfl, h1, h2⟩
theorem proof_len {j : Jd} (hj : j.Ok) {n : Int} (h0 : 0 ≤ n) (h1 : n ≤ 19) : (j.proof n).length ≤ 20 := proves_len (proof_proves hj h0 h1)
structure SaneSt (b : Nat) (w : World) (cl rl fl : Value) (ms : List CM) : Prop where
  rb : RB (fun _ => True) w cl rl fl ms exC
  h1 : w.heap[b]? = some (.cells #[cl, rl, fl] 34 (0, 0))
  h2 : w.heap[b + 1]? = some (.cells (qcells (exq 400 400)) 37 (0, 0))
  h3 : w.heap[b + 1 + 1]? = some (.cells (qcells (exq 700 650)) 37 (0, 0))
theorem SaneSt.fr {b : Nat} {w w' : World} {cl rl fl : Value} {ms : List CM} (h : SaneSt b w cl rl fl ms) (hf : Fr (fun _ => False) w w') : SaneSt b w' cl rl fl ms :=
  ⟨h.rb.fr hf (fun _ _ e => e), (hf.block _ (row_lt h.h1) (fun e => e)).trans h.h1, (hf.block _ (row_lt h.h2) (fun e => e)).trans h.h2, (hf.block _ (row_lt h.h3) (fun e => e)).trans h.h3⟩
end Go.Proofs.Ytfalhljidnpmgaa
