/- What DiskCrashBytes lays into its row of bytes, and Crash's answer to it. No condition. -/
import Derived.Test.YtlnngeafhinpkaaE8
import Derived.Laws.AppendOwnNone
set_option linter.unusedVariables false
set_option linter.unusedSimpArgs false
namespace Go.Proofs.Ytlnngeafhinpkaa
open Go.RowKit

section
variable (kept : Nat → Bool)
def lastF : Nat → Int
  | 0 => -1
  | j + 1 => if kept j then (j : Int) else lastF j
def keptL (j : Nat) : List Nat := (List.range j).filter kept
def backL (j : Nat) : List Int := ((keptL kept j).map fun i : Nat => (i : Int)).reverse
theorem keptL_succ (j : Nat) : keptL kept (j + 1) = if kept j then keptL kept j ++ [j] else keptL kept j := by
  unfold keptL
  rw [List.range_succ, List.filter_append]
  simp only [List.filter_cons, List.filter_nil]
  split <;> simp
theorem backL_succ (j : Nat) : backL kept (j + 1) = if kept j then (j : Int) :: backL kept j else backL kept j := by
  unfold backL
  rw [keptL_succ]
  split
  · simp
  · rfl
theorem backL_length (j : Nat) : (backL kept j).length ≤ j := by
  unfold backL keptL
  rw [List.length_reverse, List.length_map]
  exact Nat.le_trans (List.length_filter_le _ _) (by simp)
theorem lastF_in (j : Nat) : -1 ≤ lastF kept j ∧ lastF kept j < j := by
  induction j with
  | zero => simp [lastF]
  | succ j ih => unfold lastF; split <;> omega
theorem keptL_le {i j : Nat} (h : i ≤ j) : (keptL kept i).length ≤ (keptL kept j).length := by
  induction j with
  | zero => obtain rfl : i = 0 := by omega
            exact Nat.le_refl _
  | succ j ih =>
    by_cases e : i = j + 1
    · subst e; exact Nat.le_refl _
    · have := ih (by omega)
      rw [keptL_succ]
      split
      · simp; omega
      · exact this
theorem last_iff (j : Nat) (hk : kept j = true) (m : Nat) (h : j < m) : lastF kept m = (j : Int) ↔ (keptL kept (j + 1)).length = (keptL kept m).length := by
  induction m with
  | zero => omega
  | succ m ih =>
    by_cases e : j = m
    · subst e
      unfold lastF
      rw [if_pos hk]
      simp
    · unfold lastF
      rw [keptL_succ kept m]
      split
      · rename_i h2
        have := keptL_le kept (show j + 1 ≤ m by omega)
        simp
        omega
      · exact ih (by omega)
theorem ord_back (m : Nat) : ordS m (backL kept m) = (keptL kept m).map fun i : Nat => (i : Int) := by
  rw [ord_eq]
  unfold backL keptL
  congr 1
  apply List.filter_congr
  intro i hi
  rw [Bool.eq_iff_iff]
  simp only [List.contains_eq_mem, List.mem_reverse, List.mem_map, List.mem_filter, decide_eq_true_eq]
  constructor
  · rintro ⟨a, ⟨_, h2⟩, h3⟩
    obtain rfl : a = i := by omega
    exact h2
  · intro h
    exact ⟨i, ⟨hi, h⟩, rfl⟩

/-- One write's part. -/
def stepB (last torn : Int) (b : Bs) (i : Nat) (x : Nat × ByteArray) : Bs := if kept i then put b x.1 (if (i : Int) = last ∧ 0 ≤ torn then cutF x.2 torn else x.2).data.toList else b
def layB (last torn : Int) (d : Bs) (p : List (Nat × ByteArray)) : Bs := p.zipIdx.foldl (fun b y => stepB kept last torn b y.2 y.1) d
theorem layB_snoc (last torn : Int) (d : Bs) (p : List (Nat × ByteArray)) (x : Nat × ByteArray) : layB kept last torn d (p ++ [x]) = stepB kept last torn (layB kept last torn d p) p.length x := by
  simp [layB, List.zipIdx_append]
theorem layB_nil (last torn : Int) (d : Bs) : layB kept last torn d [] = d := rfl
theorem apTo_layB (torn : Int) (p : List (Nat × ByteArray)) (d : Bs) : ∀ j, j ≤ p.length →
    apTo p torn ((keptL kept p.length).map fun i : Nat => (i : Int)) d (keptL kept j).length = layB kept (lastF kept p.length) torn d (p.take j)
  | 0, _ => rfl
  | j + 1, h => by
    have ih := apTo_layB torn p d j (by omega)
    have hj : j < p.length := by omega
    have e3 : p.take (j + 1) = p.take j ++ [p[j]] := by rw [List.take_add_one, List.getElem?_eq_getElem (by omega)]; rfl
    have e4 : (p.take j).length = j := by simp; omega
    rw [e3, layB_snoc, e4, ← ih]
    unfold stepB
    cases hk : kept j with
    | false =>
      rw [keptL_succ]
      simp [hk]
    | true =>
      have e5 : keptL kept (j + 1) = keptL kept j ++ [j] := by rw [keptL_succ, if_pos hk]
      have hlen : (keptL kept (j + 1)).length = (keptL kept j).length + 1 := by rw [e5]; simp
      have hle := keptL_le kept (show j + 1 ≤ p.length by omega)
      have hget : (keptL kept p.length)[(keptL kept j).length]? = some j := by
        have hpre : ∀ m, j + 1 ≤ m → (keptL kept m)[(keptL kept j).length]? = some j := by
          intro m hm
          induction m with
          | zero => omega
          | succ m ihm =>
            by_cases e : j = m
            · subst e
              rw [e5]
              simp
            · rw [keptL_succ]
              have := ihm (by omega)
              split
              · rw [List.getElem?_append_left (by have := (List.getElem?_eq_some_iff.1 this).1; exact this)]
                exact this
              · exact this
        exact hpre _ (by omega)
      have hli := last_iff kept j hk p.length hj
      rw [hlen] at hli ⊢
      simp only [apTo]
      have hg : (((keptL kept p.length).map fun i : Nat => (i : Int))[(keptL kept j).length]?.getD 0).toNat = j := by simp [hget]
      rw [hg]
      have hx : p[j]?.getD (0, ByteArray.empty) = p[j] := by simp [hj]
      rw [hx]
      rw [if_pos trivial]
      congr 3
      unfold tornS cutF
      rw [List.length_map]
      by_cases ht : 0 ≤ torn
      · by_cases hl : lastF kept p.length = (j : Int)
        · have := hli.1 hl
          rw [if_pos ⟨by omega, ht⟩, if_pos ⟨hl.symm, ht⟩, Int.min_comm]
        · have : ¬ ((keptL kept j).length + 1 = (keptL kept p.length).length) := fun e => hl (hli.2 e)
          rw [if_neg (by omega), if_neg (fun e => hl e.1.symm)]
      · rw [if_neg (by omega), if_neg (by omega)]
/-- Crash(keep, torn) answers what the statement lays. -/
theorem crash_back (s : St) (torn : Int) : crashS s (backL kept s.pend.length) torn =
    { off := false, left := 0, dur := layB kept (lastF kept s.pend.length) torn s.dur s.pend, vis := layB kept (lastF kept s.pend.length) torn s.dur s.pend, pend := [] } := by
  have := apTo_layB kept torn s.pend s.dur s.pend.length (Nat.le_refl _)
  rw [List.take_length] at this
  unfold crashS
  rw [ord_back]
  dsimp only
  rw [List.length_map, this]
end

/-- append([]int{x}, keep...) on a row of ints of one's own. -/
theorem prepend_int {w : World} {base : Nat} {v : Value} {ks : List Int} (h : w.ownsRow base 3 1 v ks.length (ints ks)) (hb : base ≤ w.heap.size) (hk : ks.length ≤ 1000000) (x : Int)
    {ops : Array Oper} {rest : List Oper} {o : Oper} {a : Act} {Q : Exit → Act → World → Prop} (hgd : o.guard = none) (s y : Operand) (ho : o.op = .call { callee := .builtin .append, args := #[s, y], argTypes := #[37, 37] })
    {W : World} (hW : W = w.alloc (.cells #[.int .i64 x] 3)) (hs : a.eval s = .slice (some ⟨w.heap.size, 0, none⟩) 1 1) (hy : a.eval y = v)
    (hh : ∀ v' w', w'.ownsRow base 3 1 v' (x :: ks).length (ints (x :: ks)) → Fr (fun _ => False) w w' → wpList Try.prog ops Q rest (a.put o.dst v') w') :
    wpList Try.prog ops Q (o :: rest) a W := by
  subst hW
  obtain ⟨i0, hi0, hz0, hz1, hz2⟩ := info_parts info3
  have hown : (w.alloc (.cells #[.int .i64 x] 3)).ownsRow base 3 1 (.slice (some ⟨w.heap.size, 0, none⟩) 1 1) 1 [.int .i64 x] := World.ownsRow_lit w #[.int .i64 x] 1 hb (by unfold maxLen; omega) rfl
  by_cases hks : ks = []
  · subst hks
    have hv : v = .slice none 0 0 ∨ ∃ g c, v = .slice (some ⟨g, 0, none⟩) 0 c := by
      rcases h.2 with ⟨hv, _⟩ | ⟨g, cap, cur, hv, _⟩
      · exact .inl hv
      · exact .inr ⟨g, cap, hv⟩
    rcases hv with hv | ⟨g, c, hv⟩
    · refine wpList_append_own_none hgd s y 37 ho base 3 i0 1 Try.underlying37 hi0 _ 1 [.int .i64 x] hs hown (hy.trans hv) ?_
      exact hh _ _ hown ((Fr.refl _ _).alloc _)
    · refine wpList_append_own _ hgd s y 37 ho base 3 i0 (.int .i64 0) 1 8 Try.underlying37 hi0 hz0 hz1 hz2 rfl (by decide) _ 1 [.int .i64 x] hs hown ⟨g, 0, none⟩ 0 c [] (hy.trans hv) rfl (by simp) (by simp) (by unfold maxLen; omega) (by omega) (by simp; omega) ?_
      intro v' w' h1 h2 _
      exact hh v' w' h1 (((Fr.refl _ _).alloc _).grown h2 (fun k hk hlt => by simp [Value.ownBlock] at hk; omega))
  · have hpos : 0 < ks.length := List.length_pos_iff.2 hks
    obtain ⟨g, ad, cap, tl, hv, h1, h2, h3⟩ := own_view h
    obtain ⟨rfl, hr⟩ := h3 hpos
    have hg := row_lt hr
    have hr2 : (w.alloc (.cells #[.int .i64 x] 3)).heap[g]? = some (.cells (ints ks ++ tl).toArray 3 (0, 0)) := by rw [Below.heap_alloc _ _ _ hg]; exact hr
    refine wpList_append_own _ hgd s y 37 ho base 3 i0 (.int .i64 0) 1 8 Try.underlying37 hi0 hz0 hz1 hz2 rfl (by decide) _ 1 [.int .i64 x] hs hown ⟨g, 0, none⟩ ks.length cap (ints ks) (hy.trans hv) (by simp [ints]) ?_ ?_ (by unfold maxLen; omega) (by omega) (by simp; omega) ?_
    · intro j u hj
      have hjl : j < (ints ks).length := (List.getElem?_eq_some_iff.1 hj).1
      have e : (⟨g, 0, none⟩ : Addr).add j = ⟨g, j, none⟩ := by unfold Addr.add; split <;> simp_all
      rw [e, row_cell hr2, List.getElem?_append_left hjl]
      exact hj
    · intro u hu
      simp only [ints, List.mem_map] at hu
      obtain ⟨b, _, rfl⟩ := hu
      rfl
    · intro v' w' h4 h5 _
      refine hh v' w' ?_ (((Fr.refl _ _).alloc _).grown h5 (fun k hk hlt => by simp [Value.ownBlock] at hk; omega))
      have e1 : (x :: ks).length = 1 + ks.length := by simp; omega
      have e2 : ints (x :: ks) = [.int .i64 x] ++ ints ks := by simp [ints]
      rw [e1, e2]
      exact h4
/-- A new row in the old one's place. -/
theorem Lr.newrow {Q : Nat → Prop} {w wr : World} {B bd bv n g : Nat} {s : St} {cur : Bs} {v : Value} {ks : List Int} (h : Lr Q w wr B bd bv n g s cur v ks) {w' : World} {v' : Value} {ks' : List Int} (ho : w'.ownsRow w.heap.size 3 1 v' ks'.length (ints ks')) (f : Fr (fun _ => False) wr w') :
    Lr Q w w' B bd bv n g s cur v' ks' where
  own := ho
  lo := ⟨h.lo.held.frame f (fun _ h => h.elim), (f.block g (row_lt h.lo.row) (fun h => h)).trans h.lo.row, h.lo.ge, h.lo.fr.then f (fun _ _ h => h.elim), h.lo.lc, fun k hk => Nat.lt_of_lt_of_le (h.lo.q k hk) f.size⟩
end Go.Proofs.Ytlnngeafhinpkaa
