/- The order in which a crash goes: the numbers of pending writes that it is given, ascending, each once. Plain lists; no condition. -/
import Derived.Test.YtlnngeafhinpkaaDa
set_option linter.unusedVariables false
set_option linter.unusedSimpArgs false
namespace Go.Proofs.Ytlnngeafhinpkaa

theorem asc_ext : ∀ l l' : List Int, l.Pairwise (· < ·) → l'.Pairwise (· < ·) → (∀ x, x ∈ l ↔ x ∈ l') → l = l'
  | [], [], _, _, _ => rfl
  | [], y :: l', _, _, h => by have := (h y).2 (by simp); simp at this
  | x :: l, [], _, _, h => by have := (h x).1 (by simp); simp at this
  | x :: l, y :: l', h1, h2, h => by
    have a1 := List.pairwise_cons.1 h1
    have a2 := List.pairwise_cons.1 h2
    have e : x = y := by
      rcases List.mem_cons.1 ((h x).1 (by simp)) with e | hx
      · exact e
      · rcases List.mem_cons.1 ((h y).2 (by simp)) with e | hy
        · exact e.symm
        · have := a1.1 _ hy; have := a2.1 _ hx; omega
    subst e
    congr 1
    refine asc_ext l l' a1.2 a2.2 (fun z => ?_)
    constructor
    · intro hz
      rcases List.mem_cons.1 ((h z).1 (List.mem_cons_of_mem _ hz)) with e | hz'
      · subst e; have := a1.1 _ hz; omega
      · exact hz'
    · intro hz
      rcases List.mem_cons.1 ((h z).2 (List.mem_cons_of_mem _ hz)) with e | hz'
      · subst e; have := a2.1 _ hz; omega
      · exact hz'

theorem compact_asc (zs : List Int) (h : zs.Pairwise (· ≤ ·)) : (Lib.compact zs).Pairwise (· < ·) := by
  have hle : ∀ i j, i ≤ j → j < zs.length → zs.toArray[i]! ≤ zs.toArray[j]! := by
    intro i j hij hj
    have e1 : zs.toArray[i]! = zs[i]'(by omega) := by rw [getElem!_pos _ _ (by simp; omega)]; simp
    have e2 : zs.toArray[j]! = zs[j]'hj := by rw [getElem!_pos _ _ (by simpa using hj)]; simp
    rw [e1, e2]
    rcases Nat.lt_or_ge i j with hlt | hge
    · exact List.pairwise_iff_getElem.1 h i j (by omega) hj hlt
    · have : i = j := by omega
      subst this; exact Int.le_refl _
  unfold Lib.compact Lib.compactUpTo
  rw [List.pairwise_map]
  have hp : ((List.range zs.length).filter (Lib.keeps zs.toArray)).Pairwise (· < ·) := List.Pairwise.filter _ List.pairwise_lt_range
  refine hp.imp_of_mem ?_
  intro a b ha hb hab
  obtain ⟨hb1, hb2⟩ := List.mem_filter.1 hb
  have hbl : b < zs.length := by simpa using hb1
  have h1 := hle a (b - 1) (by omega) (by omega)
  have h2 := hle (b - 1) b (by omega) hbl
  have h3 : zs.toArray[b]! ≠ zs.toArray[b - 1]! := by
    intro e
    have := Lib.keeps_neg (d := zs.toArray) (m := b) (by omega) e
    rw [this] at hb2
    cases hb2
  omega

theorem compact_mem (zs : List Int) (x : Int) : x ∈ Lib.compact zs ↔ x ∈ zs := by
  unfold Lib.compact Lib.compactUpTo
  constructor
  · intro h
    obtain ⟨i, hi, rfl⟩ := List.mem_map.1 h
    have hl : i < zs.length := by simpa using (List.mem_filter.1 hi).1
    rw [getElem!_pos _ _ (by simpa using hl)]
    simp
  · intro h
    obtain ⟨j, hj, rfl⟩ := List.mem_iff_getElem.1 h
    induction j with
    | zero =>
      refine List.mem_map.2 ⟨0, List.mem_filter.2 ⟨by simpa using hj, ?_⟩, ?_⟩
      · exact Lib.keeps_lt_one _ 0 (by omega)
      · rw [getElem!_pos _ _ (by simpa using hj)]; simp
    | succ j ih =>
      by_cases e : zs.toArray[j + 1]! = zs.toArray[j + 1 - 1]!
      · have e' : zs[j + 1] = zs[j]'(by omega) := by
          rw [getElem!_pos _ _ (by simpa using hj), getElem!_pos _ _ (by simp; omega)] at e
          simpa using e
        rw [e']
        exact ih (by omega) (List.getElem_mem _)
      · refine List.mem_map.2 ⟨j + 1, List.mem_filter.2 ⟨by simpa using hj, Lib.keeps_pos e⟩, ?_⟩
        rw [getElem!_pos _ _ (by simpa using hj)]; simp

theorem ord_eq (m : Nat) (keep : List Int) : ordS m keep = ((List.range m).filter fun i : Nat => keep.contains (i : Int)).map fun i : Nat => (i : Int) := by
  have hs : (keep.mergeSort fun x y => decide (x ≤ y)).Pairwise (· ≤ ·) := by
    have := List.pairwise_mergeSort (le := fun x y : Int => decide (x ≤ y)) (fun a b c h1 h2 => by simp at *; omega) (fun a b => by simp; omega) keep
    exact this.imp (fun h => by simpa using h)
  apply asc_ext
  · exact List.Pairwise.filter _ (compact_asc _ hs)
  · rw [List.pairwise_map]
    exact (List.Pairwise.filter _ List.pairwise_lt_range).imp (fun h => by omega)
  · intro x
    simp only [ordS, good, List.mem_filter, compact_mem, List.mem_mergeSort, List.mem_map, List.mem_range, List.contains_iff_mem]
    constructor
    · rintro ⟨h1, h2⟩
      simp [bad] at h2
      exact ⟨x.toNat, ⟨by omega, by rw [show ((x.toNat : Nat) : Int) = x by omega]; exact h1⟩, by omega⟩
    · rintro ⟨i, ⟨h1, h2⟩, rfl⟩
      exact ⟨h2, by simp [bad]; omega⟩

end Go.Proofs.Ytlnngeafhinpkaa
