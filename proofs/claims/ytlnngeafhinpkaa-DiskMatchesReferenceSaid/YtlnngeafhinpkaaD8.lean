/- slices.DeleteFunc at the closure of Crash. No condition beside the sizes. -/
import Derived.Test.YtlnngeafhinpkaaD7
set_option linter.unusedVariables false
set_option linter.unusedSimpArgs false
namespace Go.Proofs.Ytlnngeafhinpkaa
open Go.RowKit

def good (m : Nat) (l : List Int) : List Int := l.filter fun i => !bad m i

theorem firstBad_all (m : Nat) (l : List Int) (k : Nat) (h : firstBad m l k = -1) : ∀ j, k ≤ j → j < l.length → bad m (l[j]?.getD 0) = false := by
  intro j hk hj
  induction hd : l.length - k generalizing k with
  | zero => omega
  | succ d ih =>
    rw [firstBad, if_pos (by omega)] at h
    cases hb : bad m (l[k]?.getD 0) with
    | true => rw [hb, if_pos rfl] at h; omega
    | false =>
      rw [hb, if_neg (by simp)] at h
      by_cases e : k = j
      · subst e; exact hb
      · exact ih (k + 1) h (by omega) (by omega)
theorem firstBad_at (m : Nat) (l : List Int) (k : Nat) (h : firstBad m l k ≠ -1) : ∃ i : Nat, firstBad m l k = i ∧ k ≤ i ∧ i < l.length ∧ bad m (l[i]?.getD 0) = true ∧ ∀ j, k ≤ j → j < i → bad m (l[j]?.getD 0) = false := by
  induction hd : l.length - k generalizing k with
  | zero => rw [firstBad, if_neg (by omega)] at h; exact absurd rfl h
  | succ d ih =>
    rw [firstBad, if_pos (by omega)] at h ⊢
    cases hb : bad m (l[k]?.getD 0) with
    | true => exact ⟨k, by rw [if_pos rfl], by omega, by omega, hb, fun j _ _ => by omega⟩
    | false =>
      rw [hb, if_neg (by simp)] at h
      rw [if_neg (by simp)]
      obtain ⟨i, h1, h2, h3, h4, h5⟩ := ih (k + 1) h (by omega)
      exact ⟨i, h1, by omega, h3, h4, fun j hj hji => by
        by_cases e : k = j
        · subst e; exact hb
        · exact h5 j (by omega) hji⟩
theorem good_all (m : Nat) (l : List Int) (h : ∀ j, j < l.length → bad m (l[j]?.getD 0) = false) : good m l = l := by
  apply List.filter_eq_self.2
  intro x hx
  obtain ⟨j, hj, rfl⟩ := List.mem_iff_getElem.1 hx
  have := h j hj
  rw [List.getElem?_eq_getElem hj] at this
  simpa using this

/-- What stands in the row when j numbers have been looked at, i of them kept. -/
structure Del (m n : Nat) (zs ys : List Int) (i j : Nat) : Prop where
  len : ys.length = zs.length
  kept : ys.take i = good m (zs.take j)
  ij : i ≤ j
  jn : j ≤ n
  rest : ∀ t, j ≤ t → ys[t]? = zs[t]?
theorem Del.start {m n : Nat} {zs : List Int} {i : Nat} (hn : n ≤ zs.length) (hi : i < n) (hb : bad m ((zs.take n)[i]?.getD 0) = true) (h : ∀ j, 0 ≤ j → j < i → bad m ((zs.take n)[j]?.getD 0) = false) : Del m n zs zs i (i + 1) where
  len := rfl
  kept := by
    have e1 : zs.take (i + 1) = zs.take i ++ [zs[i]'(by omega)] := by rw [List.take_succ_eq_append_getElem (by omega)]
    have e2 : (zs.take n)[i]?.getD 0 = zs[i]'(by omega) := by simp [List.getElem?_take, hi, show i < zs.length by omega]
    rw [e2] at hb
    rw [e1, good, List.filter_append]
    have e3 : (zs.take i).filter (fun x => !bad m x) = zs.take i := by
      have := good_all m (zs.take i) (fun j hj => by
        have hji : j < i := by simp at hj; omega
        have := h j (Nat.zero_le _) hji
        simp only [List.getElem?_take, hji, show j < n by omega, if_true] at this ⊢
        exact this)
      exact this
    rw [e3]
    simp [hb]
  ij := by omega
  jn := by omega
  rest := fun _ _ => rfl
theorem Del.drop {m n : Nat} {zs ys : List Int} {i j : Nat} (h : Del m n zs ys i j) (hn : n ≤ zs.length) (hj : j < n) (hb : bad m (zs[j]?.getD 0) = true) : Del m n zs ys i (j + 1) where
  len := h.len
  kept := by
    have e1 : zs.take (j + 1) = zs.take j ++ [zs[j]'(by omega)] := by rw [List.take_succ_eq_append_getElem (by omega)]
    have e2 : zs[j]?.getD 0 = zs[j]'(by omega) := by simp [show j < zs.length by omega]
    rw [e2] at hb
    rw [h.kept, e1, good, good, List.filter_append]
    simp [hb]
  ij := by have := h.ij; omega
  jn := by omega
  rest := fun t ht => h.rest t (by omega)
theorem Del.keep {m n : Nat} {zs ys : List Int} {i j : Nat} (h : Del m n zs ys i j) (hn : n ≤ zs.length) (hj : j < n) (hb : bad m (zs[j]?.getD 0) = false) : Del m n zs (ys.set i (zs[j]?.getD 0)) (i + 1) (j + 1) where
  len := by rw [List.length_set, h.len]
  kept := by
    have e1 : zs.take (j + 1) = zs.take j ++ [zs[j]'(by omega)] := by rw [List.take_succ_eq_append_getElem (by omega)]
    have e2 : zs[j]?.getD 0 = zs[j]'(by omega) := by simp [show j < zs.length by omega]
    have hil : i < ys.length := by have := h.ij; have := h.len; omega
    rw [e2] at hb ⊢
    rw [e1, good, List.filter_append]
    have hk := h.kept
    rw [good] at hk
    rw [← hk, List.take_succ_eq_append_getElem (by simpa using hil)]
    have e4 : (ys.set i (zs[j]'(by omega))).take i = ys.take i := by
      apply List.ext_getElem?
      intro t
      by_cases ht : t < i
      · simp [List.getElem?_take, ht, List.getElem?_set, show ¬ i = t by omega]
      · simp [List.getElem?_take, ht]
    simp [hb, e4]
  ij := by have := h.ij; omega
  jn := by omega
  rest := fun t ht => by
    have := h.ij
    rw [List.getElem?_set, if_neg (by omega)]
    exact h.rest t (by omega)

theorem set_ints {w : World} {g i : Nat} {ys : List Int} {tl : List Value} (h : w.heap[g]? = some (.cells (ints ys ++ tl).toArray 3 (0, 0))) (hi : i < ys.length) (x : Int) : (w.setCell ⟨g, i, none⟩ (.int .i64 x)).heap[g]? = some (.cells (ints (ys.set i x) ++ tl).toArray 3 (0, 0)) := by
  rw [heap_setCell_same w g i _ 3 _ h]
  have e : (ints ys ++ tl).toArray.setIfInBounds i (.int .i64 x) = (ints (ys.set i x) ++ tl).toArray := by
    rw [List.setIfInBounds_toArray, List.set_append_left _ _ (by rw [ints_length]; exact hi)]
    simp [ints, List.map_set]
  rw [e]

theorem zero3 (W : World) : (zeroValue 3).run Try.prog W = .ok (.int .i64 0) W := by kernel_rfl

def Deleted (m g n cap : Nat) (ad : Option Addr) (zs : List Int) (tl : List Value) (w : World) (e : Ending) (w' : World) : Prop :=
  e = .returned (.slice ad (good m (zs.take n)).length cap) ∧ (0 < n → ∃ ys, ys.length = zs.length ∧ ys.take (good m (zs.take n)).length = good m (zs.take n) ∧ w'.heap[g]? = some (.cells (ints ys ++ tl).toArray 3 (0, 0))) ∧ Fr (fun k => k = g ∧ 0 < n) w w'

set_option maxRecDepth 100000 in
set_option maxHeartbeats 3200000 in
theorem delete_any (w : World) (Bx B m c g n cap : Nat) (a : Option Addr) (ad : Option Addr) (zs : List Int) (tl : List Value) (hx : w.cell? ⟨Bx, 0, none⟩ = some (.pointer (some ⟨B, 0, none⟩))) (hp : w.cell? ⟨B, 4, none⟩ = some (.slice a m c))
    (hn : n ≤ 1000000) (hl : n ≤ zs.length) (hcap : n ≤ cap) (hg : 0 < n → ad = some ⟨g, 0, none⟩ ∧ w.heap[g]? = some (.cells (ints zs ++ tl).toArray 3 (0, 0))) (hBx : Bx ≠ g) (hB : B ≠ g) :
    Calls Try.prog 41 #[.slice ad n cap, .func (.func 42) #[] #[.pointer (some ⟨Bx, 0, none⟩)]] w (Deleted m g n cap ad zs tl w) := by
  have hidx := index_any w Bx B m c g n cap a ad zs tl hx hp hn hl hg
  have HI := hid hidx
  clear hidx
  have HL := hid hl
  clear hl
  have HG := hid hg
  clear hg
  by_cases h0 : firstBad m (zs.take n) 0 = -1
  · have HA := hid (firstBad_all m (zs.take n) 0 h0)
    have H0 := hid h0
    clear h0
    go_enter Try.func41, Try.ntmps41
    go_wp2_with (go_at_call 48; refine HI.out.mono ?_; rw [H0.out]; rintro e w' ⟨rfl, rfl⟩)
    go_ret
    have e1 : good m (zs.take n) = zs.take n := good_all m _ (fun j hj => HA.out j (Nat.zero_le _) hj)
    refine ⟨?_, ?_, Fr.refl _ _⟩
    · rw [e1]; simp [HL.out]
    · intro hpos
      obtain ⟨_, hrow⟩ := HG.out hpos
      exact ⟨zs, rfl, by rw [e1]; simp, hrow⟩
  · obtain ⟨i, hi1, hi2, hi3, hi4, hi5⟩ := firstBad_at m (zs.take n) 0 h0
    have hin : i < n := by simp at hi3; omega
    have HD := hid (Del.start HL.out hin hi4 hi5)
    have H0 := hid hi1
    obtain ⟨had, hrow⟩ := HG.out (by omega)
    have HAD := hid had
    clear had
    obtain rfl := HAD.out
    have HR := hid hrow
    clear h0 hi1 hi2 hi3 hi4 hi5 hrow
    have htest : ((i : Int) == -1) = false := by simp
    go_enter Try.func41, Try.ntmps41
    go_wp2_with (go_at_call 48; refine HI.out.mono ?_; rw [H0.out]; rintro e w' ⟨rfl, rfl⟩)
    go_loopw [5, 6, 7] (fun a b _ wr => ∃ i j ys, a = .int .i64 (i : Nat) ∧ b = .int .i64 (j : Nat) ∧ Hid (Del m n zs ys i j) ∧ Hid (wr.heap[g]? = some (.cells (ints ys ++ tl).toArray 3 (0, 0))) ∧ Fr (fun k => k = g) w wr) (fun _ b _ _ => n - (intOf b).toNat)
    case atStart => exact ⟨i, i + 1, zs, rfl, by go_num, HD, HR, Fr.refl _ _⟩
    case round =>
      obtain ⟨i2, j, ys, rfl, rfl, hd, hrow, hfr⟩ := hrel
      have hx2 : wr.cell? ⟨Bx, 0, none⟩ = some (.pointer (some ⟨B, 0, none⟩)) := (World.cell?_of_block (hfr.block Bx (World.block_lt_of_cell? w _ hx) hBx)).trans hx
      have hp2 : wr.cell? ⟨B, 4, none⟩ = some (.slice a m c) := (World.cell?_of_block (hfr.block B (World.block_lt_of_cell? w _ hp) hB)).trans hp
      by_cases hlt : j < n
      · have hij := hd.out.ij
        have hyl := hd.out.len
        have hzl := HL.out
        have hcj : wr.cell? ⟨g, j, none⟩ = some (.int .i64 (zs[j]?.getD 0)) := by
          rw [row_cell hrow.out, List.getElem?_append_left (by rw [ints_length]; omega), ints_get _ _ (by omega)]
          have := hd.out.rest j (Nat.le_refl _)
          rw [← this]
          simp [show j < ys.length by omega]
        have hci : ∃ v, wr.cell? ⟨g, i2, none⟩ = some v := ⟨_, by rw [row_cell hrow.out, List.getElem?_append_left (by rw [ints_length]; omega), ints_get _ _ (by omega)]⟩
        obtain ⟨vi, hci⟩ := hci
        have hfi := row_free hrow.out i2
        have HJ := hid hlt
        cases hb : bad m (zs[j]?.getD 0) with
        | true =>
          have HD2 := hid (hd.out.drop HL.out hlt hb)
          clear hyl hzl
          generalize zs[j]?.getD 0 = x at hcj hb
          have HB := hid hb
          clear hb
          go_wp2_with (go_at_call 42; refine (closure_any _ _ _ _ _ _ _ (by assumption) (by assumption)).mono ?_; rw [HB.out]; rintro e w' ⟨rfl, rfl⟩)
          go_roundw
          case rel => exact ⟨i2, j + 1, ys, rfl, by go_num, HD2, hrow, hfr⟩
          case measure => simp [intOf]; omega
        | false =>
          have HD2 := hid (hd.out.keep HL.out hlt hb)
          clear hyl hzl
          generalize zs[j]?.getD 0 = x at hcj hb HD2
          have HB := hid hb
          clear hb
          go_wp2_with (go_at_call 42; refine (closure_any _ _ _ _ _ _ _ (by assumption) (by assumption)).mono ?_; rw [HB.out]; rintro e w' ⟨rfl, rfl⟩)
          go_roundw
          case rel => exact ⟨i2 + 1, j + 1, ys.set i2 x, by go_num, by go_num, HD2, set_ints hrow.out (by have := hd.out.len; have := hd.out.ij; have := HL.out; omega) x, by refine Fr.set1 hfr (by rfl) _ _⟩
          case measure => simp [intOf]; omega
      · have hjn := hd.out.jn
        obtain rfl : n = j := by omega
        have hij := hd.out.ij
        have hzl := HL.out
        have hyl := hd.out.len
        have hil : i2 = (good m (zs.take n)).length := by rw [← hd.out.kept]; simp; omega
        have HI2 := hid hil
        clear hil
        have fin : ∀ w2, w2.heap[g]? = some (.cells (ints (ys.take i2 ++ (List.replicate (n - i2) 0 ++ ys.drop (i2 + (n - i2)))) ++ tl).toArray 3 (0, 0)) → Fr (fun k => k = g) wr w2 → Deleted m g n cap (some ⟨g, 0, none⟩) zs tl w (.returned (.slice (some ⟨g, 0, none⟩) i2 cap)) w2 := by
          intro w2 h2 h3
          refine ⟨by rw [HI2.out], fun _ => ⟨_, ?_, ?_, h2⟩, (hfr.trans h3).mono (fun k _ e => ⟨e, by omega⟩)⟩
          · simp; omega
          · rw [← HI2.out, List.take_append_of_le_length (by simp; omega), List.take_take, Nat.min_self]
            exact hd.out.kept
        have FIN := hid fin
        clear fin hzl hyl
        by_cases hic : cap = i2
        · obtain rfl : n = cap := by omega
          obtain rfl : n = i2 := by omega
          go_wp2_with (refine list_of rfl (wp_clear_ints (.tmp 38) 37 rfl 3 rfl zero3 _ 0 _ (by rfl) g n ys tl 3 hrow.out (fun h => by omega) (by have := hd.out.len; have := HL.out; omega) ?_); intro w2 h2 h3)
          go_ret
          exact FIN.out w2 (by simpa using h2) h3
        · have hi2 : (i2 : Int) ≤ (n : Int) := by omega
          have hi3 : (n : Int) ≤ (cap : Int) := by omega
          go_wp2_with (refine list_of rfl (wp_clear_ints (.tmp 38) 37 rfl 3 rfl zero3 _ (n - i2) _ (by rfl) g i2 ys tl 3 hrow.out (fun _ => by rfl) (by have := hd.out.len; have := HL.out; omega) ?_); intro w2 h2 h3)
          go_ret
          exact FIN.out w2 h2 h3
end Go.Proofs.Ytlnngeafhinpkaa
