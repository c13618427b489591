/- slices.Compact at a row that a call owns; Crash of the disk. No condition beside the sizes. -/
import Derived.Test.YtlnngeafhinpkaaD9
import Derived.Test.YtlnngeafhinpkaaD5
set_option linter.unusedVariables false
set_option linter.unusedSimpArgs false
namespace Go.Proofs.Ytlnngeafhinpkaa
open Go.RowKit

def Compacted (base : Nat) (w : World) (xs : List Int) (e : Ending) (w' : World) : Prop :=
  ∃ v, e = .returned v ∧ w'.ownsRow base 3 1 v (Lib.compact xs).length (ints (Lib.compact xs)) ∧ Fr (fun k => base ≤ k) w w'

theorem compact_any {w : World} {base : Nat} {v : Value} {xs : List Int} (h : w.ownsRow base 3 1 v xs.length (ints xs)) (hl : xs.length ≤ 1000000) :
    Calls Try.prog 38 #[v] w (Compacted base w xs) := by
  by_cases hx : xs = []
  · subst hx
    obtain ⟨a, c, rfl⟩ : ∃ a c, v = .slice a 0 c := by
      rcases h.2 with ⟨rfl, _⟩ | ⟨g, cap, cur, rfl, _⟩
      · exact ⟨none, 0, rfl⟩
      · exact ⟨_, cap, rfl⟩
    refine (Try.slices_Compact_int_empty a c w).mono ?_
    rintro e w' ⟨rfl, rfl⟩
    exact ⟨_, rfl, h, Fr.refl _ _⟩
  · have hpos : 0 < xs.length := by
      cases xs with
      | nil => exact absurd rfl hx
      | cons x xs => simp
    obtain ⟨g, cap, rfl, hg1, hg2⟩ := h.form hpos
    obtain ⟨tl, hr, hb, hn, hlen, hm⟩ := own_row3 h
    refine (Try.slices_Compact_int g 0 cap xs w (own_holds h) (by omega) hn).mono ?_
    rintro e w' ⟨rfl, q, rfl⟩
    have hle := Lib.compact_length_le xs
    have hs := heap_sortedI (n := q) (os := #[]) (Lib.compact xs ++ List.replicate (xs.length - (Lib.compact xs).length) 0).toArray hr
    have hgr := grownBy_sortedI (w := w) (g := g) (n := q) (os := #[]) (Lib.compact xs ++ List.replicate (xs.length - (Lib.compact xs).length) 0).toArray
    rw [Sort.grow_empty] at hs hgr
    refine ⟨_, rfl, ⟨by simp [ints], .inr ⟨g, cap, _, rfl, hb, hs, by omega, hm, ?_, ?_⟩⟩, ?_⟩
    · simp [Sort.putCells]
      simpa using hlen
    · have ht := take_putCellsI (ints xs ++ tl).toArray (Lib.compact xs ++ List.replicate (xs.length - (Lib.compact xs).length) 0) (by rw [List.size_toArray, hlen]; simp; omega)
      have := congrArg (List.take (Lib.compact xs).length) ht
      rw [List.take_take, Nat.min_eq_left (by simp)] at this
      rw [Nat.mul_one, this]
      simp [ints]
    · exact (Fr.refl _ _).grown hgr (fun k e _ => by cases e; exact hb)

/-! ### The plain crash -/
def tornS (len k : Nat) (torn : Int) (str : ByteArray) : ByteArray := if (k : Int) = (len : Int) - 1 ∧ 0 ≤ torn then str.extract 0 (min torn str.size).toNat else str
def apTo (pend : List (Nat × ByteArray)) (torn : Int) (order : List Int) (d : Bs) : Nat → Bs
  | 0 => d
  | k + 1 => let x := pend[(order[k]?.getD 0).toNat]?.getD (0, ByteArray.empty); put (apTo pend torn order d k) x.1 (tornS order.length k torn x.2).data.toList
def ordS (m : Nat) (keep : List Int) : List Int := good m (Lib.compact (keep.mergeSort fun x y => decide (x ≤ y)))
def crashS (s : St) (keep : List Int) (torn : Int) : St :=
  let o := ordS s.pend.length keep
  let d := apTo s.pend torn o s.dur o.length
  { off := false, left := 0, dur := d, vis := d, pend := [] }
def Fits (n : Nat) (p : List (Nat × ByteArray)) : Prop := ∀ x ∈ p, x.1 + x.2.size ≤ n

theorem tornS_size (len k : Nat) (torn : Int) (str : ByteArray) : (tornS len k torn str).size ≤ str.size := by
  unfold tornS
  split
  · simp [ByteArray.size_extract]
    exact Nat.min_le_right _ _
  · exact Nat.le_refl _
theorem good_in (m : Nat) (l : List Int) : ∀ x ∈ good m l, 0 ≤ x ∧ x < m := by
  intro x hx
  simp [good, bad] at hx
  omega
theorem apTo_length (n : Nat) (pend : List (Nat × ByteArray)) (torn : Int) (order : List Int) (d : Bs) (hf : Fits n pend) (hd : d.length = n) : ∀ k, (apTo pend torn order d k).length = n
  | 0 => hd
  | k + 1 => by
    have ih := apTo_length n pend torn order d hf hd k
    simp only [apTo]
    rw [put_length, ih]
    rw [ih]
    have hs := tornS_size order.length k torn (pend[(order[k]?.getD 0).toNat]?.getD (0, ByteArray.empty)).2
    have hl : ∀ s : ByteArray, s.data.toList.length = s.size := fun s => by rw [Array.length_toList]; rfl
    rw [hl]
    cases hp : pend[(order[k]?.getD 0).toNat]? with
    | none =>
      have h0 : ByteArray.empty.size = 0 := rfl
      rw [hp] at hs
      simp only [Option.getD_none] at hs ⊢
      omega
    | some x =>
      have := hf x (List.mem_of_getElem? hp)
      simp [hp] at hs ⊢
      omega
end Go.Proofs.Ytlnngeafhinpkaa
