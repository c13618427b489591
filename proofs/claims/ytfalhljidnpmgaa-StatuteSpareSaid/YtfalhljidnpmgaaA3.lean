/- ascends: what it says of a list. No condition beside the bounds. -/
import Derived.Test.YtfalhljidnpmgaaA2
set_option linter.unusedVariables false
set_option linter.unusedSimpArgs false
namespace Go.Proofs.Ytfalhljidnpmgaa
open Go.RowKit Go.Proofs.Statute

def prev (xs : List Int) (i : Nat) : Int := if i = 0 then -1 else xs[i - 1]?.getD 0
theorem prev_succ (xs : List Int) (i : Nat) (h : i < xs.length) : prev xs (i + 1) = xs[i] := by simp [prev, h]
def badAt (xs : List Int) (be : Int) (i : Nat) : Bool := !inB (xs[i]?.getD 0) (prev xs i + 1) (be - 1)
theorem ascB_any (be : Int) : ∀ (l : List Int) (la : Int), ascB la l be = !(List.range l.length).any fun i => !inB (l[i]?.getD 0) ((if i = 0 then la else l[i - 1]?.getD 0) + 1) (be - 1)
  | [], la => rfl
  | x :: l, la => by
    have ih := ascB_any be l x
    rw [List.length_cons, List.range_succ_eq_map, List.any_cons, List.any_map]
    show (inB x (la + 1) (be - 1) && ascB x l be) = _
    rw [ih]
    have e : (List.range l.length).any (fun i => !inB (l[i]?.getD 0) ((if i = 0 then x else l[i - 1]?.getD 0) + 1) (be - 1)) = (List.range l.length).any ((fun i => !inB ((x :: l)[i]?.getD 0) ((if i = 0 then la else (x :: l)[i - 1]?.getD 0) + 1) (be - 1)) ∘ Nat.succ) := by
      congr 1
      funext i
      cases i with
      | zero => simp
      | succ i => simp
    rw [e]
    simp
theorem asc_any (l : List Int) (be : Int) : ascB (-1) l be = !(List.range l.length).any (badAt l be) := ascB_any be l (-1)

set_option maxHeartbeats 800000 in
theorem closure55 (W : World) (L B : Nat) (x la be : Int) (hl : W.cell? ⟨L, 0, none⟩ = some (.int .i64 la)) (hf : W.frozen? ⟨L, 0, none⟩ = false) (hb : W.cell? ⟨B, 0, none⟩ = some (.int .i64 be)) (hne : L ≠ B) (h1 : -1 ≤ la) (h2 : la ≤ 1000) (h3 : 0 ≤ be) (h4 : be ≤ 1000) :
    Calls Try.prog 55 #[.int .i64 x, .pointer (some ⟨L, 0, none⟩), .pointer (some ⟨B, 0, none⟩)] W fun e W' => e = .returned (.bool (!inB x (la + 1) (be - 1))) ∧ W' = W.setCell ⟨L, 0, none⟩ (.int .i64 x) := by
  have hb2 : (W.setCell ⟨L, 0, none⟩ (.int .i64 x)).cell? ⟨B, 0, none⟩ = some (.int .i64 be) := (World.cell?_of_block (a := ⟨B, 0, none⟩) (Below.heap_setCell _ _ _ _ (fun e => hne e.symm))).trans hb
  go_enter Try.func55, Try.ntmps55
  go_wp2_with (go_at_call 42; refine (isIn_any _ _ _ _).mono ?_; rintro e w' ⟨rfl, rfl⟩)
  go_ret
  exact ⟨by simp, rfl⟩

theorem prev_in (xs : List Int) (be : Int) (h4 : be ≤ 1000) : ∀ i, (∀ j, j < i → badAt xs be j = false) → -1 ≤ prev xs i ∧ prev xs i ≤ 1000
  | 0, _ => by simp [prev]
  | i + 1, h => by
    have ih := prev_in xs be h4 i (fun j hj => h j (by omega))
    have hi := h i (by omega)
    simp only [badAt, inB, Bool.not_eq_false', Bool.and_eq_true, decide_eq_true_eq] at hi
    have e : prev xs (i + 1) = xs[i]?.getD 0 := by simp [prev]
    rw [e]
    omega
theorem enters55 : ∀ args w, (callFunc 55 args).run Try.prog w = .ok (.enter 55 args) w := enters_of Try.func55 (by kernel_rfl) rfl
theorem asc_call {K : Nat → Prop} (v : Value) (xs : List Int) (be : Int) (W0 : World) (L B : Nat) (hn : xs.length ≤ 1000000) (hr : Reads K W0 1 encI v xs) (hK : ¬ K L) (h3 : 0 ≤ be) (h4 : be ≤ 1000)
    (hL : W0.heap[L]? = some (.cells [.int .i64 (-1)].toArray 3 (0, 0))) (hB : W0.heap[B]? = some (.cells [.int .i64 be].toArray 3 (0, 0))) (hne : L ≠ B) :
    Calls Try.prog 56 #[v, .func (.func 55) #[] #[.pointer (some ⟨L, 0, none⟩), .pointer (some ⟨B, 0, none⟩)]] W0 fun e w' => e = .returned (.bool (!ascB (-1) xs be)) ∧ Fr (fun k => k = L) W0 w' := by
  have key := containsI (K := K) (fun i W => Fr (fun k => k = L) W0 W ∧ W.heap[L]? = some (.cells [.int .i64 (prev xs i)].toArray 3 (0, 0))) (badAt xs be) 55 #[] #[.pointer (some ⟨L, 0, none⟩), .pointer (some ⟨B, 0, none⟩)] enters55 v xs W0 hn
    ⟨Fr.refl _ _, hL⟩ (fun i W h => hr.fr h.1 (fun k hk e => hK (by rw [← e]; exact hk))) ?_
  · refine key.mono ?_
    rintro e w' ⟨k, hk, ⟨hf, _⟩, he⟩
    exact ⟨by rw [he, asc_any, Bool.not_not], hf⟩
  · rintro i hi W hp ⟨hf, hl⟩
    have hB' := (hf.block B (row_lt hB) (fun e => hne e.symm)).trans hB
    have hla := prev_in xs be h4 i hp
    refine (closure55 W L B xs[i] (prev xs i) be (by rw [row_cell hl]; rfl) (row_free hl 0) (by rw [row_cell hB']; rfl) hne hla.1 hla.2 h3 h4).mono ?_
    rintro e w' ⟨rfl, rfl⟩
    refine ⟨by simp [badAt, hi], hf.setCell (fun _ => rfl) _, ?_⟩
    rw [heap_setCell_same W L 0 _ 3 _ hl, prev_succ xs i hi]
    rfl

set_option maxRecDepth 100000 in
set_option maxHeartbeats 1600000 in
theorem ascends_any {K : Nat → Prop} (v : Value) (xs : List Int) (be : Int) (w : World) (hn : xs.length ≤ 1000000) (hr : Reads K w 1 encI v xs) (h3 : 0 ≤ be) (h4 : be ≤ 1000) (b : Bool) (hb : ascends xs be = b) :
    Calls Try.prog 43 #[v, .int .i64 be] w fun e w' => e = .returned (.bool b) ∧ Fr (fun _ => False) w w' := by
  have HR := hid hr
  obtain ⟨a, c, rfl, hc1, hc2, _⟩ := hr
  by_cases hl : xs.length ≤ 4
  · have hb' : ascB (-1) xs be = b := by rw [← hb, ascends]; simp [hl]
    have HB := hid hb'
    clear hb hb'
    go_enter Try.func43, Try.ntmps43
    go_wp2_with (go_at_call 56; refine (asc_call (K := fun k => k < w.heap.size) _ xs be ((w.alloc (.cells #[.int .i64 be] 3)).alloc (.cells #[.int .i64 (-1)] 3)) (w.heap.size + 1) w.heap.size hn ((HR.out.mono (fun k hk _ => hk)).fr (((Fr.refl (fun _ => False) w).alloc _).alloc _) (fun _ _ e => e)) (by omega) h3 h4 (by have := heap_alloc_new (w.alloc (.cells #[.int .i64 be] 3)) (.cells #[.int .i64 (-1)] 3); simpa using this) ((Below.heap_alloc _ _ _ (by simp)).trans (heap_alloc_new w _)) (by omega)).mono ?_; rintro e w' ⟨rfl, f⟩; rw [HB.out])
    go_ret
    exact ⟨by simp, (((Fr.refl _ w).alloc _).alloc _).then f (fun i hi e => by omega)⟩
  · have hb' : b = false := by rw [← hb, ascends]; simp [hl]
    subst hb'
    clear hb
    go_enter Try.func43, Try.ntmps43
    go_wp2
    go_ret
    exact ⟨rfl, ((Fr.refl _ w).alloc _).alloc _⟩
end Go.Proofs.Ytfalhljidnpmgaa
