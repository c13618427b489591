/- ContainsFunc of a function that leaves memory alone; Valid. No condition beside the bounds. -/
import Derived.Test.YtfalhljidnpmgaaA4
set_option linter.unusedVariables false
set_option linter.unusedSimpArgs false
namespace Go.Proofs.Ytfalhljidnpmgaa
open Go.RowKit Go.Proofs.Statute

theorem any_range {α : Type} (xs : List α) (P : α → Bool) : (List.range xs.length).any (fun i => (xs[i]?.map P).getD false) = xs.any P := by
  rw [Bool.eq_iff_iff, List.any_eq_true, List.any_eq_true]
  constructor
  · rintro ⟨i, hi, h⟩
    rw [List.mem_range] at hi
    exact ⟨xs[i], List.getElem_mem hi, by simpa [hi] using h⟩
  · rintro ⟨x, hx, h⟩
    obtain ⟨i, hi, rfl⟩ := List.getElem_of_mem hx
    exact ⟨i, List.mem_range.2 hi, by simpa [hi] using h⟩

theorem anyI {K : Nat → Prop} (P : Int → Bool) (g : Nat) (bd lb : Array Value) (eg : ∀ args w, (callFunc g args).run Try.prog w = .ok (.enter g args) w) (v : Value) (xs : List Int) (w : World) (hn : xs.length ≤ 1000000)
    (hr : Reads K w 1 encI v xs) (hc : ∀ i (h : i < xs.length) W, Fr (fun _ => False) w W → Calls Try.prog g (bd ++ #[.int .i64 xs[i]] ++ lb) W fun e W' => e = .returned (.bool (P xs[i])) ∧ Fr (fun _ => False) W W') :
    Calls Try.prog 56 #[v, .func (.func g) bd lb] w fun e w' => e = .returned (.bool (xs.any P)) ∧ Fr (fun _ => False) w w' := by
  refine (containsI (K := K) (fun _ W => Fr (fun _ => False) w W) (fun i => (xs[i]?.map P).getD false) g bd lb eg v xs w hn (Fr.refl _ _) (fun i W h => hr.fr h (fun _ _ e => e)) ?_).mono ?_
  · intro i hi W _ h
    refine (hc i hi W h).mono ?_
    rintro e w' ⟨rfl, f⟩
    exact ⟨by simp [hi], h.trans f⟩
  · rintro e w' ⟨k, _, h, he⟩
    exact ⟨by rw [he, any_range], h⟩

theorem anyC {K : Nat → Prop} (P : CM → Bool) (g : Nat) (bd lb : Array Value) (eg : ∀ args w, (callFunc g args).run Try.prog w = .ok (.enter g args) w) (v : Value) (xs : List CM) (w : World) (hn : xs.length ≤ 1000000)
    (hr : Reads K w 6 encC v xs) (hc : ∀ i (h : i < xs.length) W, Fr (fun _ => False) w W → Calls Try.prog g (bd ++ #[.agg (encC xs[i]).toArray] ++ lb) W fun e W' => e = .returned (.bool (P xs[i])) ∧ Fr (fun _ => False) W W') :
    Calls Try.prog 38 #[v, .func (.func g) bd lb] w fun e w' => e = .returned (.bool (xs.any P)) ∧ Fr (fun _ => False) w w' := by
  refine (containsC (K := K) (fun _ W => Fr (fun _ => False) w W) (fun i => (xs[i]?.map P).getD false) g bd lb eg v xs w hn (Fr.refl _ _) (fun i W h => hr.fr h (fun _ _ e => e)) ?_).mono ?_
  · intro i hi W _ h
    refine (hc i hi W h).mono ?_
    rintro e w' ⟨rfl, f⟩
    exact ⟨by simp [hi], h.trans f⟩
  · rintro e w' ⟨k, _, h, he⟩
    exact ⟨by rw [he, any_range], h⟩

theorem anyR {K : Nat → Prop} (P : Rp → Bool) (g : Nat) (bd lb : Array Value) (eg : ∀ args w, (callFunc g args).run Try.prog w = .ok (.enter g args) w) (v : Value) (xs : List Rp) (w : World) (hn : xs.length ≤ 1000000)
    (hr : Reads K w 3 encR v xs) (hc : ∀ i (h : i < xs.length) W, Fr (fun _ => False) w W → Calls Try.prog g (bd ++ #[.agg (encR xs[i]).toArray] ++ lb) W fun e W' => e = .returned (.bool (P xs[i])) ∧ Fr (fun _ => False) W W') :
    Calls Try.prog 44 #[v, .func (.func g) bd lb] w fun e w' => e = .returned (.bool (xs.any P)) ∧ Fr (fun _ => False) w w' := by
  refine (containsR (K := K) (fun _ W => Fr (fun _ => False) w W) (fun i => (xs[i]?.map P).getD false) g bd lb eg v xs w hn (Fr.refl _ _) (fun i W h => hr.fr h (fun _ _ e => e)) ?_).mono ?_
  · intro i hi W _ h
    refine (hc i hi W h).mono ?_
    rintro e w' ⟨rfl, f⟩
    exact ⟨by simp [hi], h.trans f⟩
  · rintro e w' ⟨k, _, h, he⟩
    exact ⟨by rw [he, any_range], h⟩

theorem anyF {K : Nat → Prop} (P : Fc → Bool) (g : Nat) (bd lb : Array Value) (eg : ∀ args w, (callFunc g args).run Try.prog w = .ok (.enter g args) w) (v : Value) (xs : List Fc) (w : World) (hn : xs.length ≤ 1000000)
    (hr : Reads K w 6 encF v xs) (hc : ∀ i (h : i < xs.length) W, Fr (fun _ => False) w W → Calls Try.prog g (bd ++ #[.agg (encF xs[i]).toArray] ++ lb) W fun e W' => e = .returned (.bool (P xs[i])) ∧ Fr (fun _ => False) W W') :
    Calls Try.prog 46 #[v, .func (.func g) bd lb] w fun e w' => e = .returned (.bool (xs.any P)) ∧ Fr (fun _ => False) w w' := by
  refine (containsF (K := K) (fun _ W => Fr (fun _ => False) w W) (fun i => (xs[i]?.map P).getD false) g bd lb eg v xs w hn (Fr.refl _ _) (fun i W h => hr.fr h (fun _ _ e => e)) ?_).mono ?_
  · intro i hi W _ h
    refine (hc i hi W h).mono ?_
    rintro e w' ⟨rfl, f⟩
    exact ⟨by simp [hi], h.trans f⟩
  · rintro e w' ⟨k, _, h, he⟩
    exact ⟨by rw [he, any_range], h⟩

theorem anyD {K : Nat → Prop} (P : Fnd → Bool) (g : Nat) (bd lb : Array Value) (eg : ∀ args w, (callFunc g args).run Try.prog w = .ok (.enter g args) w) (v : Value) (xs : List Fnd) (w : World) (hn : xs.length ≤ 1000000)
    (hr : Reads K w 4 encD v xs) (hc : ∀ i (h : i < xs.length) W, Fr (fun _ => False) w W → Calls Try.prog g (bd ++ #[.agg (encD xs[i]).toArray] ++ lb) W fun e W' => e = .returned (.bool (P xs[i])) ∧ Fr (fun _ => False) W W') :
    Calls Try.prog 61 #[v, .func (.func g) bd lb] w fun e w' => e = .returned (.bool (xs.any P)) ∧ Fr (fun _ => False) w w' := by
  refine (containsD (K := K) (fun _ W => Fr (fun _ => False) w W) (fun i => (xs[i]?.map P).getD false) g bd lb eg v xs w hn (Fr.refl _ _) (fun i W h => hr.fr h (fun _ _ e => e)) ?_).mono ?_
  · intro i hi W _ h
    refine (hc i hi W h).mono ?_
    rintro e w' ⟨rfl, f⟩
    exact ⟨by simp [hi], h.trans f⟩
  · rintro e w' ⟨k, _, h, he⟩
    exact ⟨by rw [he, any_range], h⟩

structure RB (K : Nat → Prop) (w : World) (cl rl fl : Value) (ms : List CM) (c : Rb) : Prop where
  cls : c.cls = ms.map CM.x
  hc : Reads K w 6 encC cl ms
  hn : ∀ m ∈ ms, Reads K w 1 encI m.nv m.x.needs ∧ Reads K w 1 encI m.bv m.x.bars
  hr : Reads K w 3 encR rl c.rps
  hf : Reads K w 6 encF fl c.fcs
  b1 : ∀ m ∈ ms, I64 m.x.fr ∧ m.x.needs.length ≤ 1000000 ∧ m.x.bars.length ≤ 1000000
  b2 : ∀ x ∈ c.fcs, I64 x.sf ∧ I64 x.kf
  l1 : ms.length ≤ 1000000
  l2 : c.rps.length ≤ 1000000
  l3 : c.fcs.length ≤ 1000000
theorem RB.fr {K S : Nat → Prop} {w w' : World} {cl rl fl : Value} {ms : List CM} {c : Rb} (h : RB K w cl rl fl ms c) (hf : Fr S w w') (hK : ∀ k, K k → ¬ S k) : RB K w' cl rl fl ms c where
  cls := h.cls
  hc := h.hc.fr hf hK
  hn := fun m hm => ⟨(h.hn m hm).1.fr hf hK, (h.hn m hm).2.fr hf hK⟩
  hr := h.hr.fr hf hK
  hf := h.hf.fr hf hK
  b1 := h.b1
  b2 := h.b2
  l1 := h.l1
  l2 := h.l2
  l3 := h.l3
theorem RB.mono {K K' : Nat → Prop} {w : World} {cl rl fl : Value} {ms : List CM} {c : Rb} (h : RB K w cl rl fl ms c) (hK : ∀ k, k < w.heap.size → K k → K' k) : RB K' w cl rl fl ms c where
  cls := h.cls
  hc := h.hc.mono hK
  hn := fun m hm => ⟨(h.hn m hm).1.mono hK, (h.hn m hm).2.mono hK⟩
  hr := h.hr.mono hK
  hf := h.hf.mono hK
  b1 := h.b1
  b2 := h.b2
  l1 := h.l1
  l2 := h.l2
  l3 := h.l3
theorem RB.len {K : Nat → Prop} {w : World} {cl rl fl : Value} {ms : List CM} {c : Rb} (h : RB K w cl rl fl ms c) : c.cls.length = ms.length := by rw [h.cls, List.length_map]
theorem enters39 : ∀ args w, (callFunc 39 args).run Try.prog w = .ok (.enter 39 args) w := enters_of Try.func39 (by kernel_rfl) rfl
theorem enters45 : ∀ args w, (callFunc 45 args).run Try.prog w = .ok (.enter 45 args) w := enters_of Try.func45 (by kernel_rfl) rfl
theorem enters47 : ∀ args w, (callFunc 47 args).run Try.prog w = .ok (.enter 47 args) w := enters_of Try.func47 (by kernel_rfl) rfl
section
variable {K : Nat → Prop} {w W : World} {cl rl fl : Value} {ms : List CM} {c : Rb}
theorem any_not {α : Type} (xs : List α) (P : α → Bool) : xs.any (fun x => !P x) = !xs.all P := by
  rw [Bool.eq_iff_iff]
  simp
theorem call38 (h : RB K w cl rl fl ms c) (b : Bool) (hb : c.cls.all clB = b) : Calls Try.prog 38 #[cl, .func (.func 39) #[] #[]] w fun e w' => e = .returned (.bool (!b)) ∧ Fr (fun _ => False) w w' := by
  have e : (!b) = ms.any fun m => !clB m.x := by rw [any_not, ← hb, h.cls, List.all_map]; rfl
  rw [e]
  refine anyC (K := K) (fun m => !clB m.x) 39 #[] #[] enters39 cl ms w h.l1 h.hc ?_
  intro i hi W hf
  have hm := List.getElem_mem hi
  exact valid1 ms[i] W (h.b1 _ hm).2.1 (h.b1 _ hm).2.2 ((h.hn _ hm).1.fr hf (fun _ _ e => e)) ((h.hn _ hm).2.fr hf (fun _ _ e => e)) (h.b1 _ hm).1
theorem call44 (h : RB K w cl rl fl ms c) (hs : ms.length ≤ 1000) (B cap : Nat) (ad : Option Addr) (hB : w.cell? ⟨B, 0, none⟩ = some (.slice ad ms.length cap)) (b : Bool) (hb : c.rps.all (rpB c.cls.length) = b) :
    Calls Try.prog 44 #[rl, .func (.func 45) #[] #[.pointer (some ⟨B, 0, none⟩)]] w fun e w' => e = .returned (.bool (!b)) ∧ Fr (fun _ => False) w w' := by
  have e : (!b) = c.rps.any fun x => !rpB ms.length x := by rw [any_not, ← hb, h.len]
  rw [e]
  refine anyR (K := K) (fun x => !rpB ms.length x) 45 #[] #[.pointer (some ⟨B, 0, none⟩)] enters45 rl c.rps w h.l2 h.hr ?_
  intro i hi W hf
  exact valid2 c.rps[i] B ms.length cap ad W hs ((hf.cells B 0 (World.block_lt_of_cell? w _ hB)).trans hB)
theorem call46 (h : RB K w cl rl fl ms c) (b : Bool) (hb : c.fcs.all fcB = b) : Calls Try.prog 46 #[fl, .func (.func 47) #[] #[]] w fun e w' => e = .returned (.bool (!b)) ∧ Fr (fun _ => False) w w' := by
  have e : (!b) = c.fcs.any fun x => !fcB x := by rw [any_not, ← hb]
  rw [e]
  refine anyF (K := K) (fun x => !fcB x) 47 #[] #[] enters47 fl c.fcs w h.l3 h.hf ?_
  intro i hi W hf
  exact valid3 c.fcs[i] W (h.b2 _ (List.getElem_mem hi)).1 (h.b2 _ (List.getElem_mem hi)).2
end

set_option maxRecDepth 100000 in
set_option maxHeartbeats 6400000 in
theorem valid_b {K : Nat → Prop} {w : World} {cl rl fl : Value} {ms : List CM} {c : Rb} (h : RB K w cl rl fl ms c) (b : Bool) (hb : validB c = b) :
    Calls Try.prog 25 #[.agg #[cl, rl, fl]] w fun e w' => e = .returned (.bool b) ∧ Fr (fun _ => False) w w' := by
  subst hb
  have hlen := hid h.len
  have H := hid h
  obtain ⟨a1, c1, rfl, _, _, _⟩ := h.hc
  obtain ⟨a2, c2, rfl, _, _, _⟩ := h.hr
  obtain ⟨a3, c3, rfl, _, _, _⟩ := h.hf
  clear h
  have e0 : Hid (validB c = (decide (ms.length ≤ 20) && decide (c.rps.length ≤ 10) && decide (c.fcs.length ≤ 20) && c.cls.all clB && c.rps.all (rpB c.cls.length) && c.fcs.all fcB)) := hid (by rw [← hlen.out]; rfl)
  rw [e0.out]
  clear e0
  by_cases l1 : ms.length ≤ 20
  · by_cases l2 : c.rps.length ≤ 10
    · by_cases l3 : c.fcs.length ≤ 20
      · have HC : Hid (∀ W, Fr (fun _ => False) w W → RB (fun k => k < w.heap.size) W (.slice a1 ms.length c1) (.slice a2 c.rps.length c2) (.slice a3 c.fcs.length c3) ms c) := hid (fun W hf => (H.out.mono (fun k hk _ => hk)).fr hf (fun _ _ e => e))
        have BX : Hid ((w.alloc (.cells #[.slice a1 ms.length c1, .slice a2 c.rps.length c2, .slice a3 c.fcs.length c3] 34)).cell? ⟨w.heap.size, 0, none⟩ = some (.slice a1 ms.length c1)) := hid (by rw [cell_of_row _ _ _ _ _ _ (heap_alloc_new w _)]; rfl)
        have f0 : Fr (fun _ => False) w (w.alloc (.cells #[.slice a1 ms.length c1, .slice a2 c.rps.length c2, .slice a3 c.fcs.length c3] 34)) := (Fr.refl _ _).alloc _
        have F0 := hid f0
        clear f0 H hlen
        generalize hA : c.cls.all clB = A
        generalize hB : c.rps.all (rpB c.cls.length) = B
        generalize hC : c.fcs.all fcB = C
        have HA := hid hA
        have HB := hid hB
        have HCC := hid hC
        clear hA hB hC
        cases A with
        | false =>
          go_enter Try.func25, Try.ntmps25
          go_wp2_with (first | (go_at_call 38; refine (call38 (HC.out _ F0.out) _ HA.out).mono ?_; rintro e w1 ⟨rfl, f1⟩; have r1 := f1.cells; have z1 : w.heap.size < w1.heap.size := by have := f1.size; simp at this; omega))
          go_ret
          exact ⟨by simp [l1, l2, l3], F0.out.trans f1⟩
        | true =>
          cases B with
          | false =>
            go_enter Try.func25, Try.ntmps25
            go_wp2_with (first | (go_at_call 38; refine (call38 (HC.out _ F0.out) _ HA.out).mono ?_; rintro e w1 ⟨rfl, f1⟩; have r1 := f1.cells; have z1 : w.heap.size < w1.heap.size := by have := f1.size; simp at this; omega) | (go_at_call 44; refine (call44 (HC.out _ (F0.out.trans f1)) (by omega) w.heap.size c1 a1 ((f1.cells w.heap.size 0 (by simp)).trans BX.out) _ HB.out).mono ?_; rintro e w2 ⟨rfl, f2⟩; have r2 := f2.cells))
            go_ret
            exact ⟨by simp [l1, l2, l3], (F0.out.trans f1).trans f2⟩
          | true =>
            cases C with
            | false =>
              go_enter Try.func25, Try.ntmps25
              go_wp2_with (first | (go_at_call 38; refine (call38 (HC.out _ F0.out) _ HA.out).mono ?_; rintro e w1 ⟨rfl, f1⟩; have r1 := f1.cells; have z1 : w.heap.size < w1.heap.size := by have := f1.size; simp at this; omega) | (go_at_call 44; refine (call44 (HC.out _ (F0.out.trans f1)) (by omega) w.heap.size c1 a1 ((f1.cells w.heap.size 0 (by simp)).trans BX.out) _ HB.out).mono ?_; rintro e w2 ⟨rfl, f2⟩; have r2 := f2.cells) | (go_at_call 46; refine (call46 (HC.out _ ((F0.out.trans f1).trans f2)) _ HCC.out).mono ?_; rintro e w3 ⟨rfl, f3⟩))
              go_ret
              exact ⟨by simp [l1, l2, l3], ((F0.out.trans f1).trans f2).trans f3⟩
            | true =>
              go_enter Try.func25, Try.ntmps25
              go_wp2_with (first | (go_at_call 38; refine (call38 (HC.out _ F0.out) _ HA.out).mono ?_; rintro e w1 ⟨rfl, f1⟩; have r1 := f1.cells; have z1 : w.heap.size < w1.heap.size := by have := f1.size; simp at this; omega) | (go_at_call 44; refine (call44 (HC.out _ (F0.out.trans f1)) (by omega) w.heap.size c1 a1 ((f1.cells w.heap.size 0 (by simp)).trans BX.out) _ HB.out).mono ?_; rintro e w2 ⟨rfl, f2⟩; have r2 := f2.cells) | (go_at_call 46; refine (call46 (HC.out _ ((F0.out.trans f1).trans f2)) _ HCC.out).mono ?_; rintro e w3 ⟨rfl, f3⟩))
              go_ret
              exact ⟨by simp [l1, l2, l3], ((F0.out.trans f1).trans f2).trans f3⟩
      · go_enter Try.func25, Try.ntmps25
        go_wp2
        go_ret
        exact ⟨by simp [l3], (Fr.refl _ _).alloc _⟩
    · go_enter Try.func25, Try.ntmps25
      go_wp2
      go_ret
      exact ⟨by simp [l2], (Fr.refl _ _).alloc _⟩
  · go_enter Try.func25, Try.ntmps25
    go_wp2
    go_ret
    exact ⟨by simp [l1], (Fr.refl _ _).alloc _⟩
end Go.Proofs.Ytfalhljidnpmgaa
