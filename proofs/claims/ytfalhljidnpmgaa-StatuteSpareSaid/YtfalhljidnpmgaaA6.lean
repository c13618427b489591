/- Rows of numbers that a call owns: sorted, compacted; insert. No condition beside the sizes. -/
import Derived.Test.YtfalhljidnpmgaaA5
import Derived.Test.YtfalhljidnpmgaaSh
import Derived.Sort.OwnSortedInts
set_option linter.unusedVariables false
set_option linter.unusedSimpArgs false
namespace Go.Proofs.Ytfalhljidnpmgaa
open Go.RowKit Go.Proofs.Statute

def ints (l : List Int) : List Value := l.map (Value.int .i64)
theorem ints_length (l : List Int) : (ints l).length = l.length := by simp [ints]
theorem ints_get (l : List Int) (i : Nat) (h : i < l.length) : (ints l)[i]? = some (.int .i64 (l[i]'h)) := by simp [ints, h]
theorem asc_ext : ∀ l l' : List Int, l.Pairwise (· < ·) → l'.Pairwise (· < ·) → (∀ x, x ∈ l ↔ x ∈ l') → l = l'
  | [], [], _, _, _ => rfl
  | [], y :: l', _, _, h => by have := (h y).2 (by simp); simp at this
  | x :: l, [], _, _, h => by have := (h x).1 (by simp); simp at this
  | x :: l, y :: l', h1, h2, h => by
    have a1 := List.pairwise_cons.1 h1
    have a2 := List.pairwise_cons.1 h2
    have e : x = y := by
      rcases List.mem_cons.1 ((h x).1 (by simp)) with e | hx
      · exact e
      · rcases List.mem_cons.1 ((h y).2 (by simp)) with e | hy
        · exact e.symm
        · have := a1.1 _ hy; have := a2.1 _ hx; omega
    subst e
    congr 1
    refine asc_ext l l' a1.2 a2.2 (fun z => ?_)
    constructor
    · intro hz
      rcases List.mem_cons.1 ((h z).1 (List.mem_cons_of_mem _ hz)) with e | hz'
      · subst e; have := a1.1 _ hz; omega
      · exact hz'
    · intro hz
      rcases List.mem_cons.1 ((h z).2 (List.mem_cons_of_mem _ hz)) with e | hz'
      · subst e; have := a2.1 _ hz; omega
      · exact hz'

theorem compact_asc (zs : List Int) (h : zs.Pairwise (· ≤ ·)) : (Lib.compact zs).Pairwise (· < ·) := by
  have hle : ∀ i j, i ≤ j → j < zs.length → zs.toArray[i]! ≤ zs.toArray[j]! := by
    intro i j hij hj
    have e1 : zs.toArray[i]! = zs[i]'(by omega) := by rw [getElem!_pos _ _ (by simp; omega)]; simp
    have e2 : zs.toArray[j]! = zs[j]'hj := by rw [getElem!_pos _ _ (by simpa using hj)]; simp
    rw [e1, e2]
    rcases Nat.lt_or_ge i j with hlt | hge
    · exact List.pairwise_iff_getElem.1 h i j (by omega) hj hlt
    · have : i = j := by omega
      subst this; exact Int.le_refl _
  unfold Lib.compact Lib.compactUpTo
  rw [List.pairwise_map]
  have hp : ((List.range zs.length).filter (Lib.keeps zs.toArray)).Pairwise (· < ·) := List.Pairwise.filter _ List.pairwise_lt_range
  refine hp.imp_of_mem ?_
  intro a b ha hb hab
  obtain ⟨hb1, hb2⟩ := List.mem_filter.1 hb
  have hbl : b < zs.length := by simpa using hb1
  have h1 := hle a (b - 1) (by omega) (by omega)
  have h2 := hle (b - 1) b (by omega) hbl
  have h3 : zs.toArray[b]! ≠ zs.toArray[b - 1]! := by
    intro e
    have := Lib.keeps_neg (d := zs.toArray) (m := b) (by omega) e
    rw [this] at hb2
    cases hb2
  omega

theorem compact_mem (zs : List Int) (x : Int) : x ∈ Lib.compact zs ↔ x ∈ zs := by
  unfold Lib.compact Lib.compactUpTo
  constructor
  · intro h
    obtain ⟨i, hi, rfl⟩ := List.mem_map.1 h
    have hl : i < zs.length := by simpa using (List.mem_filter.1 hi).1
    rw [getElem!_pos _ _ (by simpa using hl)]
    simp
  · intro h
    obtain ⟨j, hj, rfl⟩ := List.mem_iff_getElem.1 h
    induction j with
    | zero =>
      refine List.mem_map.2 ⟨0, List.mem_filter.2 ⟨by simpa using hj, ?_⟩, ?_⟩
      · exact Lib.keeps_lt_one _ 0 (by omega)
      · rw [getElem!_pos _ _ (by simpa using hj)]; simp
    | succ j ih =>
      by_cases e : zs.toArray[j + 1]! = zs.toArray[j + 1 - 1]!
      · have e' : zs[j + 1] = zs[j]'(by omega) := by
          rw [getElem!_pos _ _ (by simpa using hj), getElem!_pos _ _ (by simp; omega)] at e
          simpa using e
        rw [e']
        exact ih (by omega) (List.getElem_mem _)
      · refine List.mem_map.2 ⟨j + 1, List.mem_filter.2 ⟨by simpa using hj, Lib.keeps_pos e⟩, ?_⟩
        rw [getElem!_pos _ _ (by simpa using hj)]; simp

theorem own_row3 {w : World} {base g n cap : Nat} {xs : List Int} (h : w.ownsRow base 3 1 (.slice (some ⟨g, 0, none⟩) n cap) n (ints xs)) : ∃ tl, w.heap[g]? = some (.cells (ints xs ++ tl).toArray 3 (0, 0)) ∧ base ≤ g ∧ n ≤ cap ∧ (ints xs ++ tl).length = cap ∧ cap ≤ maxLen := by
  obtain ⟨hl, hr⟩ := h
  rcases hr with ⟨hv, _⟩ | ⟨g', cap', cur, hv, hb, hg, hn, hm, hs, ht⟩
  · simp at hv
  · injection hv with h1 h2 h3
    injection h1 with h1
    injection h1 with h1 _ _
    subst h1; subst h3
    have e : ints xs ++ cur.toList.drop n = cur.toList := by
      have : cur.toList.take n = ints xs := by simpa using ht
      rw [← this, List.take_append_drop]
    refine ⟨cur.toList.drop n, by rw [e]; simpa using hg, hb, hn, ?_, hm⟩
    rw [e, Array.length_toList, hs]
    omega

theorem own_holds {w : World} {base g cap : Nat} {xs : List Int} (h : w.ownsRow base 3 1 (.slice (some ⟨g, 0, none⟩) xs.length cap) xs.length (ints xs)) : Sort.Holds (Value.int .i64) w g 0 xs.toArray := by
  obtain ⟨tl, hr, _⟩ := own_row3 h
  refine holds_of_blockI hr ?_
  have : xs.length = (ints xs).length := by simp [ints]
  rw [this]
  simp [ints]


theorem own_kept {w w' : World} {base : Nat} {e : TypeId} {sz n : Nat} {v : Value} {xs : List Value} (h : w.ownsRow base e sz v n xs) (hk : ∀ k, v.ownBlock = some k → w'.heap[k]? = w.heap[k]?) : w'.ownsRow base e sz v n xs := by
  refine ⟨h.1, ?_⟩
  rcases h.2 with hn | ⟨g, cap, cur, rfl, hb, hgg, rest⟩
  · exact .inl hn
  · exact .inr ⟨g, cap, cur, rfl, hb, (hk g rfl).trans hgg, rest⟩
theorem own_base {w : World} {base : Nat} {e : TypeId} {sz n : Nat} {v : Value} {xs : List Value} (h : w.ownsRow base e sz v n xs) : ∀ k, v.ownBlock = some k → base ≤ k ∧ k < w.heap.size := fun k hk => by
  rcases h.2 with ⟨rfl, _⟩ | ⟨g, cap, cur, rfl, hb, hgg, rest⟩
  · simp [Value.ownBlock] at hk
  · simp [Value.ownBlock] at hk
    subst hk
    exact ⟨hb, row_lt hgg⟩
theorem own_fr {S : Nat → Prop} {w w' : World} {base : Nat} {e : TypeId} {sz n : Nat} {v : Value} {xs : List Value} (h : w.ownsRow base e sz v n xs) (hf : Fr S w w') (hS : ∀ k, v.ownBlock = some k → ¬ S k) : w'.ownsRow base e sz v n xs :=
  own_kept h fun k hk => hf.block k (own_base h k hk).2 (hS k hk)
theorem own_shape {w : World} {base : Nat} {e : TypeId} {sz n : Nat} {v : Value} {xs : List Value} (h : w.ownsRow base e sz v n xs) : ∃ a c, v = .slice a n c ∧ n ≤ c ∧ c ≤ maxLen := by
  rcases h.2 with ⟨rfl, h0⟩ | ⟨g, cap, cur, rfl, _, _, hc, hm, _⟩
  · exact ⟨none, 0, by rw [h0], by omega, by unfold maxLen; omega⟩
  · exact ⟨_, cap, rfl, hc, hm⟩
theorem own_zero {w : World} {base : Nat} {e : TypeId} {sz n : Nat} {v : Value} {xs : List Value} (h : w.ownsRow base e sz v n xs) {base' : Nat} (hb : base' ≤ base) : w.ownsRow base' e sz v n xs := by
  refine ⟨h.1, ?_⟩
  rcases h.2 with hn | ⟨g, cap, cur, rfl, hb2, rest⟩
  · exact .inl hn
  · exact .inr ⟨g, cap, cur, rfl, Nat.le_trans hb hb2, rest⟩
theorem flat_get {α : Type} {sz : Nat} {enc : α → List Value} (he : ∀ x, (enc x).length = sz) : ∀ (xs : List α) (i : Nat) (hi : i < xs.length) (j : Nat), j < sz → (xs.flatMap enc)[i * sz + j]? = (enc xs[i])[j]?
  | [], i, hi, _, _ => by simp at hi
  | x :: xs, 0, hi, j, hj => by
    rw [List.flatMap_cons, Nat.zero_mul, Nat.zero_add, List.getElem?_append_left (by rw [he]; exact hj)]
    rfl
  | x :: xs, i + 1, hi, j, hj => by
    rw [List.flatMap_cons, List.getElem?_append_right (by rw [he, Nat.succ_mul]; omega), he, show (i + 1) * sz + j - sz = i * sz + j by rw [Nat.succ_mul]; omega]
    exact flat_get he xs i (by simpa using hi) j hj
/-- A row of one's own, to be read. -/
theorem own_reads {α : Type} {K : Nat → Prop} {w : World} {base : Nat} {e : TypeId} {sz : Nat} {enc : α → List Value} {v : Value} {xs : List α} (he : ∀ x, (enc x).length = sz) (h : w.ownsRow base e sz v xs.length (xs.flatMap enc)) (hK : ∀ k, v.ownBlock = some k → K k) : Reads K w sz enc v xs := by
  rcases h.2 with ⟨rfl, h0⟩ | ⟨g, cap, cur, rfl, hb, hg, hc, hm, _⟩
  · refine ⟨none, 0, by rw [h0], by omega, by omega, fun hp => by omega⟩
  · refine ⟨_, cap, rfl, hc, by unfold maxLen at hm; omega, fun hp => ⟨g, 0, rfl, hK g rfl, row_lt hg, fun i hi j u hu => ?_⟩⟩
    have hj : j < sz := by
      have := (List.getElem?_eq_some_iff.1 hu).1
      rw [he] at this
      exact this
    have hlt : i * sz + j < xs.length * sz := by
      have : (i + 1) * sz ≤ xs.length * sz := Nat.mul_le_mul_right _ hi
      rw [Nat.succ_mul] at this
      omega
    have e1 : (⟨g, 0 + i * sz + j, none⟩ : Addr) = ⟨g, i * sz + j, none⟩ := by rw [Nat.zero_add]
    rw [e1, h.cellAt _ hlt, flat_get he xs i hi j hj]
    exact hu
theorem ints_flat (l : List Int) : l.flatMap encI = ints l := by
  induction l with
  | nil => rfl
  | cons x l ih => simp only [List.flatMap_cons, ih, ints, List.map_cons]; rfl

def srt (xs : List Int) : List Int := xs.mergeSort fun x y => decide (x ≤ y)
theorem srt_length (xs : List Int) : (srt xs).length = xs.length := List.length_mergeSort _
theorem sort_own {w : World} {base g cap n : Nat} {xs : List Int} (h : w.ownsRow base 3 1 (.slice (some ⟨g, 0, none⟩) n cap) n (ints xs)) (hnn : n = xs.length) (hl : xs.length ≤ 1000000) :
    Calls Try.prog 50 #[.slice (some ⟨g, 0, none⟩) n cap] w fun e w' => e = .returned (.tuple #[]) ∧ w'.ownsRow base 3 1 (.slice (some ⟨g, 0, none⟩) n cap) n (ints (srt xs)) ∧ Fr (fun k => k = g) w w' := by
  subst hnn
  obtain ⟨tl, hr, hb, hn, hlen, hm⟩ := own_row3 h
  refine (Try.slices_Sort_int _ 0 _ xs _ (own_holds h) (row_lt hr) (by omega)).mono ?_
  rintro e w2 ⟨rfl, n, os, rfl⟩
  have hs := heap_sortedI (n := n) (os := os) (srt xs).toArray hr
  have hgr := grownBy_sortedI (w := w) (g := g) (n := n) (os := os) (srt xs).toArray
  refine ⟨rfl, ⟨by simp [ints_length, srt_length], .inr ⟨g, cap, _, rfl, hb, hs, hn, hm, ?_, ?_⟩⟩, (Fr.refl _ _).grown hgr (fun k e _ => by cases e; rfl)⟩
  · simp [Sort.putCells]
    simpa using hlen
  · have hl2 := srt_length xs
    rw [Nat.mul_one, ← hl2]
    have := take_putCellsI (ints xs ++ tl).toArray (srt xs) (by rw [List.size_toArray, hlen]; omega)
    simpa [ints] using this
theorem compact_own {w : World} {base g cap n : Nat} {xs : List Int} (h : w.ownsRow base 3 1 (.slice (some ⟨g, 0, none⟩) n cap) n (ints xs)) (hnn : n = xs.length) (hl : xs.length ≤ 1000000) :
    Calls Try.prog 51 #[.slice (some ⟨g, 0, none⟩) n cap] w fun e w' => e = .returned (.slice (some ⟨g, 0, none⟩) (Lib.compact xs).length cap) ∧ w'.ownsRow base 3 1 (.slice (some ⟨g, 0, none⟩) (Lib.compact xs).length cap) (Lib.compact xs).length (ints (Lib.compact xs)) ∧ Fr (fun k => k = g) w w' := by
  subst hnn
  obtain ⟨tl, hr, hb, hn, hlen, hm⟩ := own_row3 h
  refine (Try.slices_Compact_int g 0 cap xs w (own_holds h) (by omega) hn).mono ?_
  rintro e w' ⟨rfl, q, rfl⟩
  have hle := Lib.compact_length_le xs
  have hs := heap_sortedI (n := q) (os := #[]) (Lib.compact xs ++ List.replicate (xs.length - (Lib.compact xs).length) 0).toArray hr
  have hgr := grownBy_sortedI (w := w) (g := g) (n := q) (os := #[]) (Lib.compact xs ++ List.replicate (xs.length - (Lib.compact xs).length) 0).toArray
  rw [Sort.grow_empty] at hs hgr
  refine ⟨rfl, ⟨by simp [ints], .inr ⟨g, cap, _, rfl, hb, hs, by omega, hm, ?_, ?_⟩⟩, ?_⟩
  · simp [Sort.putCells]
    simpa using hlen
  · have ht := take_putCellsI (ints xs ++ tl).toArray (Lib.compact xs ++ List.replicate (xs.length - (Lib.compact xs).length) 0) (by rw [List.size_toArray, hlen]; simp; omega)
    have := congrArg (List.take (Lib.compact xs).length) ht
    rw [List.take_take, Nat.min_eq_left (by simp)] at this
    rw [Nat.mul_one, this]
    simp [ints]
  · exact (Fr.refl _ _).grown hgr (fun k e _ => by cases e; rfl)

theorem info3 : (Try.prog.info? 3).map (fun i => (i.zero, i.size, i.bytes)) = some (some (.int .i64 0), 1, 8) := by kernel_rfl
def ins (xs : List Int) (x : Int) : List Int := Lib.compact (srt (xs ++ [x]))
theorem ins_length (xs : List Int) (x : Int) : (ins xs x).length ≤ xs.length + 1 := by
  unfold ins
  have := Lib.compact_length_le (srt (xs ++ [x]))
  rw [srt_length] at this
  simpa using this
theorem ins_asc (xs : List Int) (x : Int) : (ins xs x).Pairwise (· < ·) := by
  unfold ins srt
  refine compact_asc _ ?_
  have := List.pairwise_mergeSort (le := fun x y : Int => decide (x ≤ y)) (fun a b c h1 h2 => by simp at *; omega) (fun a b => by simp; omega) (xs ++ [x])
  exact this.imp (fun h => by simpa using h)
theorem ins_mem (xs : List Int) (x y : Int) : y ∈ ins xs x ↔ y ∈ xs ∨ y = x := by
  unfold ins srt
  rw [compact_mem, List.mem_mergeSort]
  simp
theorem ins_last (xs : List Int) (x : Int) (h : xs.Pairwise (· < ·)) (hx : ∀ y ∈ xs, y < x) : ins xs x = xs ++ [x] := by
  refine asc_ext _ _ (ins_asc xs x) ?_ (fun z => by rw [ins_mem]; simp)
  rw [List.pairwise_append]
  exact ⟨h, by simp, fun a ha b hb => by simp at hb; rw [hb]; exact hx a ha⟩

def Inserted (base : Nat) (w : World) (v : Value) (ys : List Int) (e : Ending) (w' : World) : Prop :=
  ∃ g cap, e = .returned (.slice (some ⟨g, 0, none⟩) ys.length cap) ∧ w'.ownsRow base 3 1 (.slice (some ⟨g, 0, none⟩) ys.length cap) ys.length (ints ys) ∧ Fr (fun k => v.ownBlock = some k) w w' ∧ (v.ownBlock = some g ∨ w.heap.size ≤ g)
set_option maxRecDepth 100000 in
set_option maxHeartbeats 1600000 in
theorem insert_any {w : World} {base : Nat} {v : Value} {xs : List Int} (h : w.ownsRow base 3 1 v xs.length (ints xs)) (hb : base ≤ w.heap.size) (hl : xs.length ≤ 100000) (x : Int) (m : Nat) (hm : w.heap[m]? = some (.cells #[.int .i64 x] 3 (0, 0))) :
    Calls Try.prog 35 #[v, .slice (some ⟨m, 0, none⟩) 1 1] w (Inserted base w v (ins xs x)) := by
  obtain ⟨a, c, rfl, _, _⟩ := own_shape h
  obtain ⟨i0, hi0, hz0, hz1, hz2⟩ := info_parts info3
  have H := hid h
  have HM := hid hm
  have hml := row_lt hm
  clear h hm
  have HL : Hid (xs.length + 1 = (xs ++ [x]).length) := hid (by simp)
  have HL2 : Hid ((xs ++ [x]).length ≤ 1000000) := hid (by simp; omega)
  have HL3 : Hid (xs.length + 1 = (srt (xs ++ [x])).length) := hid (by rw [srt_length]; simp)
  have HL4 : Hid ((srt (xs ++ [x])).length ≤ 1000000) := hid (by rw [srt_length]; simp; omega)
  go_enter Try.func35, Try.ntmps35
  go_wp2_with (first
    | (refine wpList_append_lies _ rfl (.tmp 5) (.tmp 6) 49 rfl base 3 i0 _ 1 8 Try.underlying49 hi0 hz0 hz1 hz2 rfl (by decide) (.slice a xs.length c) xs.length (ints xs) (by rfl) H.out ⟨m, 0, none⟩ 1 1 [.int .i64 x] (by rfl) (by rfl) (World.news_of_block (cs := #[.int .i64 x]) (t := 3) (fr := (0, 0)) HM.out) (by simp [Value.oneCell']) (by omega) (by unfold maxLen; omega) (by omega) hb w.heap.size rfl ?_; intro g2 cap2 w1 h1 h2 h3 h4; have H1 : Hid (w1.ownsRow base 3 1 (.slice (some ⟨g2, 0, none⟩) (xs.length + 1) cap2) (xs.length + 1) (ints (xs ++ [x]))) := hid (by simpa [ints] using h1); have F1 : Hid (Fr (fun k => (Value.slice a xs.length c).ownBlock = some k) w w1) := hid ((Fr.refl _ _).grown h2 (fun k hk _ => hk)); have P1 := hid h3; clear h1 h2 h3)
    | (go_at_call 50; refine (sort_own H1.out HL.out HL2.out).mono ?_; rintro e w2 ⟨rfl, h5, f5⟩; have H5 := hid h5; have F5 := hid f5; clear h5 f5)
    | (go_at_call 51; refine (compact_own H5.out HL3.out HL4.out).mono ?_; rintro e w3 ⟨rfl, h6, f6⟩; have H6 := hid h6; have F6 := hid f6; clear h6 f6))
  go_ret
  refine ⟨g2, cap2, rfl, H6.out, ?_, P1.out.imp (fun e => e) (fun e => by omega)⟩
  refine (F1.out.then (F5.out.trans F6.out) (fun i hi e => ?_))
  rcases P1.out with e2 | e2
  · rw [e]; exact e2
  · omega
end Go.Proofs.Ytfalhljidnpmgaa
