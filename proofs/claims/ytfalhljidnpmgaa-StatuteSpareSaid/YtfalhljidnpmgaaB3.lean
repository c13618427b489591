/- Contains at numbers; the closures of isRight that look into the list. No condition beside the bounds. -/
import Derived.Test.YtfalhljidnpmgaaB2
set_option linter.unusedVariables false
set_option linter.unusedSimpArgs false
namespace Go.Proofs.Ytfalhljidnpmgaa
open Go.RowKit Go.Proofs.Statute Go.Maps

def ZPost (w : World) (p : Bool) (n : Nat) (e : Ending) (w' : World) : Prop := ∃ z : Int, e = .returned (.int .i64 z) ∧ p = decide (0 ≤ z) ∧ -1 ≤ z ∧ z ≤ n ∧ w = w'
set_option maxRecDepth 100000 in
set_option maxHeartbeats 1600000 in
theorem index75 {K : Nat → Prop} {w : World} {v : Value} {xs : List Int} (h : Reads K w 1 encI v xs) (hl : xs.length ≤ 1000000) (x : Int) :
    Calls Try.prog 75 #[v, .int .i64 x] w (ZPost w (xs.any fun y => y == x) xs.length) := by
  have H := hid h
  obtain ⟨a, c, rfl, _⟩ := h
  go_enter Try.func75, Try.ntmps75
  go_wp2
  go_loopw [5, 8] (fun _ s8 wr => ∃ k : Nat, k ≤ xs.length ∧ s8 = .int .i64 k ∧ wr = w ∧ Hid (∀ i (hi : i < xs.length), i < k → (xs[i] == x) = false)) (fun _ s8 _ => xs.length - (intOf s8).toNat)
  case atStart => exact ⟨0, Nat.zero_le _, rfl, rfl, hid (fun i _ hi => absurd hi (Nat.not_lt_zero _))⟩
  case round =>
    obtain ⟨k, hk, rfl, rfl, hA⟩ := hrel
    by_cases hlt : k < xs.length
    · obtain ⟨b, o, rfl, _, _, hc⟩ := reads_one H.out k hlt
      have HY : Hid (∀ v, (xs[k] == x) = v → v = true → (xs.any fun y => y == x) = true) := hid (fun v e1 e2 => by rw [List.any_eq_true]; exact ⟨xs[k], List.getElem_mem hlt, by rw [e1, e2]⟩)
      have HN : Hid (∀ v, (xs[k] == x) = v → v = false → ∀ i (hi : i < xs.length), i < k + 1 → (xs[i] == x) = false) := hid (fun v e1 e2 i hi hlt2 => by
        by_cases e : i = k
        · subst e; rw [e1, e2]
        · exact hA.out i hi (by omega))
      generalize xs[k] = y at hc HY HN
      cases hq : (y == x) with
      | true =>
        have hq2 : (x == y) = true := by
          have e : y = x := by simpa using hq
          simp [e]
        have HE := hid (HY.out _ hq rfl)
        clear HY HN hq
        go_wp2
        go_ret
        exact ⟨k, rfl, by rw [HE.out]; simp, by omega, by omega, rfl⟩
      | false =>
        have hq2 : (x == y) = false := by
          have : ¬ y = x := by simpa using hq
          simp; exact fun e => this e.symm
        have HE := hid (HN.out _ hq rfl)
        clear HY HN hq
        go_wp2
        go_roundw
        case rel => exact ⟨k + 1, by omega, by go_num, trivial, HE⟩
        case measure => simp [intOf]; omega
    · obtain rfl : k = xs.length := by omega
      clear hlt hk
      have HE : Hid ((xs.any fun y => y == x) = false) := hid (by
        rw [Bool.eq_false_iff]
        intro h
        obtain ⟨y, hy, e⟩ := List.any_eq_true.1 h
        obtain ⟨i, hi, rfl⟩ := List.getElem_of_mem hy
        rw [hA.out i hi hi] at e
        exact absurd e (by simp))
      go_wp2
      go_ret
      exact ⟨-1, rfl, by rw [HE.out]; rfl, by omega, by omega, rfl⟩
theorem contains66 {K : Nat → Prop} {w : World} {v : Value} {xs : List Int} (h : Reads K w 1 encI v xs) (hl : xs.length ≤ 1000000) (x : Int) (b : Bool) (hb : (xs.any fun y => y == x) = b) :
    Calls Try.prog 66 #[v, .int .i64 x] w fun e w' => e = .returned (.bool b) ∧ w = w' := by
  have H := hid (index75 h hl x)
  have HB := hid hb
  clear h hb
  obtain ⟨bb, hbb⟩ : ∃ bb, bb = xs.length := ⟨_, rfl⟩
  go_enter Try.func66, Try.ntmps66
  go_wp2_with (go_at_call 75; refine H.out.mono ?_; rintro e w' ⟨z, rfl, hz, hz1, hz2, rfl⟩; have HZ := hid hz; clear hz)
  go_ret
  exact ⟨by rw [← HB.out, HZ.out]; rfl, rfl⟩
theorem nats_any (l : List Nat) (x : Int) : (nats l).any (fun y => y == x) = hasN l x := by unfold nats hasN; rw [List.any_map]; rfl

set_option maxHeartbeats 1600000 in
theorem closure62 (y : Fnd) (n : Int) (h : Bool) (bn bh : Nat) (w : World) (hn : w.cell? ⟨bn, 0, none⟩ = some (.int .i64 n)) (hh : w.cell? ⟨bh, 0, none⟩ = some (.bool h)) :
    Calls Try.prog 62 #[.agg (encD y).toArray, .pointer (some ⟨bn, 0, none⟩), .pointer (some ⟨bh, 0, none⟩)] w fun e w' => e = .returned (.bool (y.says == n && y.holds == h)) ∧ Fr (fun _ => False) w w' := by
  obtain ⟨s, t, u, v⟩ := y
  unfold encD
  dsimp only
  have b1 := World.block_lt_of_cell? w _ hn
  have b2 := World.block_lt_of_cell? w _ hh
  dsimp only at b1 b2
  cases hA : (s == n) with
  | false =>
    go_enter Try.func62, Try.ntmps62
    go_wp2
    go_ret
    exact ⟨by simp, (Fr.refl _ _).alloc _⟩
  | true =>
    cases t <;> cases h
    all_goals
      go_enter Try.func62, Try.ntmps62
      go_wp2
      go_ret
      exact ⟨by simp, (Fr.refl _ _).alloc _⟩
theorem enters62 : ∀ args w, (callFunc 62 args).run Try.prog w = .ok (.enter 62 args) w := enters_of Try.func62 (by kernel_rfl) rfl
set_option maxHeartbeats 1600000 in
theorem finds60 {K : Nat → Prop} {w : World} {lv : Value} {l : List Fnd} (hr : Reads K w 4 encD lv l) (hl : l.length ≤ 1000000) (lb : Nat) (hb : w.cell? ⟨lb, 0, none⟩ = some lv) (n : Int) (h : Bool) (b : Bool) (hbb : finds l n h = b) :
    Calls Try.prog 60 #[.int .i64 n, .bool h, .pointer (some ⟨lb, 0, none⟩)] w fun e w' => e = .returned (.bool b) ∧ Fr (fun _ => False) w w' := by
  have b1 := World.block_lt_of_cell? w _ hb
  dsimp only at b1
  obtain ⟨a, c, rfl, hc1, hc2, _⟩ := id hr
  have HC : Hid (Calls Try.prog 61 #[.slice a l.length c, .func (.func 62) #[] #[.pointer (some ⟨w.heap.size, 0, none⟩), .pointer (some ⟨w.heap.size + 1, 0, none⟩)]] ((w.alloc (.cells #[.int .i64 n] 3)).alloc (.cells #[.bool h] 4)) fun e w' => e = .returned (.bool b) ∧ Fr (fun _ => False) ((w.alloc (.cells #[.int .i64 n] 3)).alloc (.cells #[.bool h] 4)) w') := hid (by
    rw [← hbb]
    refine anyD (K := K) (fun y => y.says == n && y.holds == h) 62 #[] #[.pointer (some ⟨w.heap.size, 0, none⟩), .pointer (some ⟨w.heap.size + 1, 0, none⟩)] enters62 _ l _ hl (hr.fr (((Fr.refl (fun _ => False) w).alloc _).alloc _) (fun _ _ e => e)) ?_
    intro i hi W hf
    refine closure62 l[i] n h _ _ W ?_ ?_
    · rw [hf.cells _ _ (by simp <;> omega), World.cell?_of_block (a := ⟨w.heap.size, 0, none⟩) (Below.heap_alloc _ _ _ (by simp)), cell_of_row _ _ _ _ _ _ (heap_alloc_new w _)]
      rfl
    · rw [hf.cells _ _ (by simp <;> omega)]
      have := heap_alloc_new (w.alloc (.cells #[.int .i64 n] 3)) (.cells #[.bool h] 4)
      rw [World.size_alloc] at this
      rw [cell_of_row _ _ _ _ _ _ this]
      rfl)
  clear hr
  go_enter Try.func60, Try.ntmps60
  go_wp2_with (go_at_call 61; refine HC.out.mono ?_; rintro e w' ⟨rfl, f⟩)
  go_ret
  exact ⟨rfl, (((Fr.refl _ _).alloc _).alloc _).trans f⟩
/-- The function that looks into the list, in a box. -/
structure Fin (K : Nat → Prop) (w : World) (fb lb : Nat) (lv : Value) (l : List Fnd) : Prop where
  hf : w.cell? ⟨fb, 0, none⟩ = some (.func (.func 60) #[] #[.pointer (some ⟨lb, 0, none⟩)])
  hb : w.cell? ⟨lb, 0, none⟩ = some lv
  hr : Reads K w 4 encD lv l
  hl : l.length ≤ 1000000
theorem Fin.quiet {K : Nat → Prop} {w w' : World} {fb lb : Nat} {lv : Value} {l : List Fnd} (h : Fin K w fb lb lv l) (f : Fr (fun _ => False) w w') : Fin K w' fb lb lv l where
  hf := (f.cells _ _ (World.block_lt_of_cell? w _ h.hf)).trans h.hf
  hb := (f.cells _ _ (World.block_lt_of_cell? w _ h.hb)).trans h.hb
  hr := h.hr.fr f (fun _ _ e => e)
  hl := h.hl

set_option maxHeartbeats 1600000 in
theorem closure64 {K : Nat → Prop} {w : World} {fb lb : Nat} {lv : Value} {l : List Fnd} (hh : Fin K w fb lb lv l) (n : Int) :
    Calls Try.prog 64 #[.int .i64 n, .pointer (some ⟨fb, 0, none⟩)] w fun e w' => e = .returned (.bool (finds l n false)) ∧ Fr (fun _ => False) w w' := by
  have hf := hh.hf
  generalize hB : finds l n false = B
  have HB := hid (finds60 hh.hr hh.hl lb hh.hb n false B hB)
  clear hh hB
  go_enter Try.func64, Try.ntmps64
  go_wp2_with (go_at_call 60; refine HB.out.mono ?_; rintro e w' ⟨rfl, f⟩)
  go_ret
  exact ⟨rfl, f⟩
theorem enters64 : ∀ args w, (callFunc 64 args).run Try.prog w = .ok (.enter 64 args) w := enters_of Try.func64 (by kernel_rfl) rfl

set_option maxHeartbeats 1600000 in
theorem closure65 {K : Nat → Prop} {w : World} {fb lb : Nat} {lv : Value} {l : List Fnd} (hh : Fin K w fb lb lv l) (n : Int) :
    Calls Try.prog 65 #[.int .i64 n, .pointer (some ⟨fb, 0, none⟩)] w fun e w' => e = .returned (.bool (finds l n true)) ∧ Fr (fun _ => False) w w' := by
  have hf := hh.hf
  generalize hB : finds l n true = B
  have HB := hid (finds60 hh.hr hh.hl lb hh.hb n true B hB)
  clear hh hB
  go_enter Try.func65, Try.ntmps65
  go_wp2_with (go_at_call 60; refine HB.out.mono ?_; rintro e w' ⟨rfl, f⟩)
  go_ret
  exact ⟨rfl, f⟩
theorem enters65 : ∀ args w, (callFunc 65 args).run Try.prog w = .ok (.enter 65 args) w := enters_of Try.func65 (by kernel_rfl) rfl

set_option maxHeartbeats 1600000 in
theorem closure67 {K : Nat → Prop} {w : World} {fb lb : Nat} {lv : Value} {l : List Fnd} (hh : Fin K w fb lb lv l) (n : Int) :
    Calls Try.prog 67 #[.int .i64 n, .pointer (some ⟨fb, 0, none⟩)] w fun e w' => e = .returned (.bool (!finds l n true)) ∧ Fr (fun _ => False) w w' := by
  have hf := hh.hf
  generalize hB : finds l n true = B
  have HB := hid (finds60 hh.hr hh.hl lb hh.hb n true B hB)
  clear hh hB
  go_enter Try.func67, Try.ntmps67
  go_wp2_with (go_at_call 60; refine HB.out.mono ?_; rintro e w' ⟨rfl, f⟩)
  go_ret
  exact ⟨by simp, f⟩
theorem enters67 : ∀ args w, (callFunc 67 args).run Try.prog w = .ok (.enter 67 args) w := enters_of Try.func67 (by kernel_rfl) rfl

set_option maxHeartbeats 1600000 in
theorem closure68 {K : Nat → Prop} {w : World} {fb lb : Nat} {lv : Value} {l : List Fnd} (hh : Fin K w fb lb lv l) (n : Int) :
    Calls Try.prog 68 #[.int .i64 n, .pointer (some ⟨fb, 0, none⟩)] w fun e w' => e = .returned (.bool (!finds l n false)) ∧ Fr (fun _ => False) w w' := by
  have hf := hh.hf
  generalize hB : finds l n false = B
  have HB := hid (finds60 hh.hr hh.hl lb hh.hb n false B hB)
  clear hh hB
  go_enter Try.func68, Try.ntmps68
  go_wp2_with (go_at_call 60; refine HB.out.mono ?_; rintro e w' ⟨rfl, f⟩)
  go_ret
  exact ⟨by simp, f⟩
theorem enters68 : ∀ args w, (callFunc 68 args).run Try.prog w = .ok (.enter 68 args) w := enters_of Try.func68 (by kernel_rfl) rfl
end Go.Proofs.Ytfalhljidnpmgaa
