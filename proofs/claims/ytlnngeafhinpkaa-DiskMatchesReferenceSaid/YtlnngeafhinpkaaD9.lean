/- slices.Collect, slices.Sorted and slices.Compact at the numbers that a crash is given. No condition beside the sizes. -/
import Derived.Test.YtlnngeafhinpkaaD6
import Derived.Test.YtlnngeafhinpkaaD8
import Derived.Test.YtlnngeafhinpkaaSh
import Derived.Sort.OwnSortedInts
import Derived.Deep.AppendLies
set_option linter.unusedVariables false
set_option linter.unusedSimpArgs false
namespace Go.Proofs.Ytlnngeafhinpkaa
open Go.RowKit

def Coll (w : World) (xs : List Int) (e : Ending) (w' : World) : Prop :=
  ∃ v, e = .returned v ∧ w'.ownsRow w.heap.size 3 1 v xs.length (xs.map (Value.int .i64)) ∧ (v = .slice none 0 0 ↔ xs = []) ∧ Below w.heap.size w w'

set_option maxHeartbeats 800000 in
theorem collect_any (Bs n₀ : Nat) (sv : Value) (xs : List Int) (hbytes : xs.length * 8 ≤ 140737488351232) (w : World)
    (hBs : Bs < w.heap.size) (hn₀ : n₀ ≤ w.heap.size) (hc : w.cell? ⟨Bs, 0, none⟩ = some sv) (hI : Ints n₀ w sv xs) :
    Calls Try.prog 45 #[.func (.func 47) #[] #[.pointer (some ⟨Bs, 0, none⟩)]] w (Coll w xs) := by
  have HA : Hid (Calls Try.prog 49 #[.slice none 0 0, .func (.func 47) #[] #[.pointer (some ⟨Bs, 0, none⟩)]] w (Coll w xs)) := callsIn_wide.1 (appendSeq_in Fence.wide 5 trivial trivial rfl (by omega) Bs n₀ sv xs hbytes w hBs hn₀ hc hI)
  clear hc
  go_enter Try.func45, Try.ntmps45
  go_wp2_with (go_at_call 49; refine HA.out.mono ?_; rintro e w' ⟨v, rfl, h1, h2, h3⟩)
  go_ret
  exact ⟨v, rfl, h1, h2, h3⟩

theorem own_row3 {w : World} {base g n cap : Nat} {xs : List Int} (h : w.ownsRow base 3 1 (.slice (some ⟨g, 0, none⟩) n cap) n (ints xs)) : ∃ tl, w.heap[g]? = some (.cells (ints xs ++ tl).toArray 3 (0, 0)) ∧ base ≤ g ∧ n ≤ cap ∧ (ints xs ++ tl).length = cap ∧ cap ≤ maxLen := by
  obtain ⟨hl, hr⟩ := h
  rcases hr with ⟨hv, _⟩ | ⟨g', cap', cur, hv, hb, hg, hn, hm, hs, ht⟩
  · simp at hv
  · injection hv with h1 h2 h3
    injection h1 with h1
    injection h1 with h1 _ _
    subst h1; subst h3
    have e : ints xs ++ cur.toList.drop n = cur.toList := by
      have : cur.toList.take n = ints xs := by simpa using ht
      rw [← this, List.take_append_drop]
    refine ⟨cur.toList.drop n, by rw [e]; simpa using hg, hb, hn, ?_, hm⟩
    rw [e, Array.length_toList, hs]
    omega

theorem own_holds {w : World} {base g cap : Nat} {xs : List Int} (h : w.ownsRow base 3 1 (.slice (some ⟨g, 0, none⟩) xs.length cap) xs.length (ints xs)) : Sort.Holds (Value.int .i64) w g 0 xs.toArray := by
  obtain ⟨tl, hr, _⟩ := own_row3 h
  refine holds_of_blockI hr ?_
  have : xs.length = (ints xs).length := by simp [ints]
  rw [this]
  simp [ints]

set_option maxHeartbeats 800000 in
theorem sorted_any (Bs n₀ : Nat) (sv : Value) (xs : List Int) (hbytes : xs.length ≤ 1000000) (w : World)
    (hBs : Bs < w.heap.size) (hn₀ : n₀ ≤ w.heap.size) (hc : w.cell? ⟨Bs, 0, none⟩ = some sv) (hI : Ints n₀ w sv xs) :
    Calls Try.prog 39 #[.func (.func 47) #[] #[.pointer (some ⟨Bs, 0, none⟩)]] w (Coll w (xs.mergeSort fun x y => decide (x ≤ y))) := by
  have HC := hid (collect_any Bs n₀ sv xs (by omega) w hBs hn₀ hc hI)
  clear hc
  by_cases hx : xs = []
  · have HX := hid hx
    clear hx
    go_enter Try.func39, Try.ntmps39
    go_wp2_with (first | (go_at_call 45; refine HC.out.mono ?_; rintro e w1 ⟨v, rfl, h1, h2, h3⟩; obtain rfl := h2.2 HX.out) | (go_at_call 46; refine (Try.slices_Sort_int_none _ _ _).mono ?_; rintro e w2 ⟨rfl, rfl⟩))
    go_ret
    have e0 : xs.mergeSort (fun x y => decide (x ≤ y)) = [] := by rw [HX.out]; simp
    refine ⟨_, rfl, ?_, by simp [e0], h3⟩
    rw [e0]
    exact World.ownsRow_nil _ _ _ _
  · have HX := hid hx
    have hpos : 0 < xs.length := by
      cases xs with
      | nil => exact absurd rfl hx
      | cons x xs => simp
    clear hx
    go_enter Try.func39, Try.ntmps39
    go_wp2_with (first | (go_at_call 45; refine HC.out.mono ?_; rintro e w1 ⟨v, rfl, h1, h2, h3⟩; obtain ⟨g, cap, rfl, hg1, hg2⟩ := h1.form hpos; have H1 := hid h1; clear h1 h2) | (go_at_call 46; refine (Try.slices_Sort_int _ 0 _ xs _ (own_holds H1.out) hg2 (by omega)).mono ?_; rintro e w2 ⟨rfl, n, os, rfl⟩))
    go_ret
    have hlen : (xs.mergeSort (fun x y => decide (x ≤ y))).length = xs.length := List.length_mergeSort _
    obtain ⟨tl, hr, hb, hn, hl, hm⟩ := own_row3 H1.out
    have hs := heap_sortedI (n := n) (os := os) (xs.mergeSort fun x y => decide (x ≤ y)).toArray hr
    have hgr := grownBy_sortedI (w := w1) (g := g) (n := n) (os := os) (xs.mergeSort fun x y => decide (x ≤ y)).toArray
    refine ⟨_, rfl, ⟨by simp, .inr ⟨g, cap, _, by rw [hlen]; rfl, hb, hs, by omega, hm, ?_, ?_⟩⟩, ?_, h3.grown hgr h3.size (fun k e => by cases e; exact hb)⟩
    · simp [Sort.putCells]
      simpa using hl
    · rw [Nat.mul_one]
      exact take_putCellsI _ _ (by rw [List.size_toArray, hl, hlen]; omega)
    · constructor
      · intro e; simp at e
      · intro e; rw [e] at hlen; simp at hlen; omega
end Go.Proofs.Ytlnngeafhinpkaa
