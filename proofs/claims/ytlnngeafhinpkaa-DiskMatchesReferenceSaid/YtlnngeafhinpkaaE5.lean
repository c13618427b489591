/- DiskAllSurvive answers true. No condition. -/
import Derived.Test.YtlnngeafhinpkaaE4
set_option linter.unusedVariables false
set_option linter.unusedSimpArgs false
namespace Go.Proofs.Ytlnngeafhinpkaa
open Go.RowKit

def lay (d : Bs) (p : List (Nat × ByteArray)) : Bs := p.foldl (fun d x => put d x.1 x.2.data.toList) d
theorem lay_snoc (d : Bs) (p : List (Nat × ByteArray)) (x : Nat × ByteArray) : lay d (p ++ [x]) = put (lay d p) x.1 x.2.data.toList := by simp [lay]
theorem allTo_snoc (k : Nat) : (List.range (k + 1)).map (fun i : Nat => (i : Int)) = (List.range k).map (fun i : Nat => (i : Int)) ++ [(k : Int)] := by simp [List.range_succ]
def allTo (k : Nat) : List Int := (List.range k).map fun i : Nat => (i : Int)
theorem allTo_length (k : Nat) : (allTo k).length = k := by simp [allTo]
theorem ord_all (m : Nat) : ordS m (allTo m) = allTo m := by
  rw [ord_eq]
  unfold allTo
  congr 1
  apply List.filter_eq_self.2
  intro a ha
  simp only [List.contains_eq_mem, List.mem_map, decide_eq_true_eq]
  exact ⟨a, ha, rfl⟩
theorem apTo_all (p : List (Nat × ByteArray)) (d : Bs) : ∀ k, k ≤ p.length → apTo p (-1) (allTo p.length) d k = lay d (p.take k)
  | 0, _ => rfl
  | k + 1, h => by
    have ih := apTo_all p d k (by omega)
    have e1 : ((allTo p.length)[k]?.getD 0).toNat = k := by simp [allTo, show k < p.length by omega]
    have e2 : ∀ str, tornS (allTo p.length).length k (-1) str = str := fun str => by unfold tornS; rw [if_neg (by omega)]
    have e3 : p.take (k + 1) = p.take k ++ [p[k]] := by rw [List.take_add_one, List.getElem?_eq_getElem (by omega)]; rfl
    unfold apTo
    rw [ih, e1, e3, lay_snoc]
    dsimp only
    rw [e2]
    simp [show k < p.length by omega]
/-- Crash that keeps everything. -/
theorem crash_all (s : St) (h : s.vis = lay s.dur s.pend) : crashS s (allTo s.pend.length) (-1) = { off := false, left := 0, dur := s.vis, vis := s.vis, pend := [] } := by
  unfold crashS
  rw [ord_all]
  have := apTo_all s.pend s.dur s.pend.length (Nat.le_refl _)
  rw [List.take_length] at this
  dsimp only
  rw [allTo_length, this, ← h]

structure Su (n : Nat) (s : St) (j : Nat) : Prop where
  off : s.off = false
  left : s.left = 0
  vis : s.vis = lay s.dur s.pend
  fit : Fits n s.pend
  pl : s.pend.length ≤ j
theorem Su.start (n : Nat) : Su n (fresh n) 0 := ⟨rfl, rfl, rfl, by simp [fresh, Fits], by simp [fresh]⟩
theorem Su.wrote {n : Nat} {s : St} {j : Nat} (h : Su n s j) (o : Nat) (str : ByteArray) (hf : o + str.size ≤ n) : Su n (wrote s o str) (j + 1) := by
  have hu : Go.Proofs.Ytlnngeafhinpkaa.wrote s o str = { s with vis := put s.vis o str.data.toList, pend := s.pend ++ [(o, str)] } := by
    unfold Go.Proofs.Ytlnngeafhinpkaa.wrote used
    rw [if_pos h.left]
  rw [hu]
  refine ⟨h.off, h.left, by simp only [lay_snoc, ← h.vis], ?_, by simp; exact h.pl⟩
  intro y hy
  simp only [List.mem_append, List.mem_singleton] at hy
  rcases hy with hy | rfl
  · exact h.fit y hy
  · exact hf
theorem Su.sync {n : Nat} {s : St} {j : Nat} (h : Su n s j) : (syncS s).1 = 0 ∧ Su n (syncS s).2 j := by
  unfold syncS
  rw [if_neg (by simp [h.off])]
  exact ⟨rfl, h.off, h.left, rfl, by simp [Fits], by simp⟩

/-- A disk newer than the arguments, and beside Q. -/
structure Lh (Q : Nat → Prop) (w wr : World) (B bd bv n : Nat) (s : St) : Prop where
  held : Held (fun k => k < w.heap.size ∨ Q k) wr B bd bv n s
  fr : Fr (fun k => w.heap.size ≤ k) w wr
  q : ∀ k, Q k → k < wr.heap.size
section
variable {Q : Nat → Prop} {w wr : World} {B bd bv n : Nat} {s : St}
theorem Lh.inK (h : Lh Q w wr B bd bv n s) : ∀ k, (k < w.heap.size ∨ Q k) → k < wr.heap.size := by
  rintro k (e | e)
  · exact Nat.lt_of_lt_of_le e h.fr.size
  · exact h.q k e
theorem Lh.n2 (h : Lh Q w wr B bd bv n s) : n ≤ 4194304 := by
  obtain ⟨pv, h1, _⟩ := h.held
  exact h1.n2
theorem Lh.lv (h : Lh Q w wr B bd bv n s) : s.vis.length = n ∧ s.dur.length = n := by
  obtain ⟨pv, h1, _⟩ := h.held
  exact ⟨h1.lv, h1.ld⟩
theorem Lh.alloc (h : Lh Q w wr B bd bv n s) (o : Obj) : Lh Q w (wr.alloc o) B bd bv n s where
  held := h.held.alloc o
  fr := h.fr.alloc o
  q := fun k hk => by have := h.q k hk; simp; omega
/-- A new block, kept apart from now on. -/
theorem Lh.box (h : Lh Q w wr B bd bv n s) (o : Obj) : Lh (fun k => Q k ∨ k = wr.heap.size) w (wr.alloc o) B bd bv n s where
  held := by
    obtain ⟨pv, h1, h2⟩ := h.held
    refine ⟨pv, h1.keep (fun k hk => Below.heap_alloc _ _ _ (h1.lt k hk)), fun k hk => ?_⟩
    rintro (e | e | e)
    · exact h2 k hk (.inl e)
    · exact h2 k hk (.inr e)
    · have := h1.lt k hk; omega
  fr := h.fr.alloc o
  q := fun k hk => by
    rcases hk with e | e
    · have := h.q k e; simp; omega
    · simp; omega
theorem Lh.less {Q' : Nat → Prop} (h : Lh Q w wr B bd bv n s) (hQ : ∀ k, Q' k → Q k) : Lh Q' w wr B bd bv n s where
  held := h.held.mono (fun k _ hk => by rcases hk with e | e; exact .inl e; exact .inr (hQ k e))
  fr := h.fr
  q := fun k hk => h.q k (hQ k hk)
theorem Lh.box3 (h : Lh Q w wr B bd bv n s) (X Y Z : Obj) : Lh (fun k => Q k ∨ k = wr.heap.size + 2) w (((wr.alloc X).alloc Y).alloc Z) B bd bv n s := by
  have := ((h.alloc X).alloc Y).box Z
  have e : ((wr.alloc X).alloc Y).heap.size = wr.heap.size + 2 := by simp
  rwa [e] at this
def LhR (Q : Nat → Prop) (w wr : World) (B bd bv n : Nat) (r : Value) (s : St) (e : Ending) (w' : World) : Prop :=
  e = .returned r ∧ Lh Q w w' B bd bv n s ∧ (∀ k, Q k → w'.heap[k]? = wr.heap[k]?) ∧ wr.heap.size ≤ w'.heap.size
theorem Lh.of_held (h : Lh Q w wr B bd bv n s) {r : Value} {s' : St} {e : Ending} {w' : World} (hh : HeldR (fun k => k < w.heap.size ∨ Q k) wr B bd bv n r s' e w') : LhR Q w wr B bd bv n r s' e w' := by
  obtain ⟨h1, h2, h3⟩ := hh
  exact ⟨h1, ⟨h2, h.fr.then h3 (fun i _ hn => by have : ¬ i < w.heap.size := fun hi => hn (.inl hi); omega), fun k hk => Nat.lt_of_lt_of_le (h.q k hk) h3.size⟩, fun k hk => h3.block k (h.q k hk) (fun hn => hn (.inr hk)), h3.size⟩
theorem lh_write (h : Lh Q w wr B bd bv n s) (off : Nat) (str : ByteArray) (hl : 0 ≤ s.left ∧ s.left ≤ 9223372036854775807) (ho : s.off = false) (hp : s.pend.length ≤ 1000000) (hf : off + str.size ≤ n) :
    Calls Try.prog 21 #[.pointer (some ⟨B, 0, none⟩), .int .i64 off, .string str] wr (LhR Q w wr B bd bv n (.int .i64 0) (wrote s off str)) := by
  have hn2 := h.n2
  have hw : writeS s n off str = (0, wrote s off str) := by
    unfold writeS
    rw [if_neg (by simp [ho]), if_pos (inside_true (by omega))]
    rfl
  have := held_write h.held h.inK off str (by omega) (by omega) hl hp (by omega)
  rw [hw] at this
  exact this.mono fun _ _ => h.of_held
theorem lh_sync (h : Lh Q w wr B bd bv n s) : Calls Try.prog 23 #[.pointer (some ⟨B, 0, none⟩)] wr (LhR Q w wr B bd bv n (.int .i64 (syncS s).1) (syncS s).2) :=
  (held_sync h.held h.inK).mono fun _ _ => h.of_held
theorem lh_cut (h : Lh Q w wr B bd bv n s) (k : Int) : Calls Try.prog 24 #[.pointer (some ⟨B, 0, none⟩), .int .i64 k] wr (LhR Q w wr B bd bv n (.int .i64 (cutS s k).1) (cutS s k).2) :=
  (held_cut h.held h.inK k).mono fun _ _ => h.of_held
theorem lh_crash (h : Lh Q w wr B bd bv n s) (hf : Fits n s.pend) (hpl : s.pend.length ≤ 1000000) (kp : Value) (keep : List Int) (hk : Keeps wr kp keep) (hkl : keep.length ≤ 1000000) (torn : Int) (ht1 : -9223372036854775808 ≤ torn) (ht2 : torn ≤ 9223372036854775807) :
    Calls Try.prog 25 #[.pointer (some ⟨B, 0, none⟩), kp, .int .i64 torn] wr (LhR Q w wr B bd bv n (.int .i64 0) (crashS s keep torn)) :=
  (held_crash h.held h.inK hf hpl kp keep hk hkl torn ht1 ht2).mono fun _ _ => h.of_held
theorem lh_read (h : Lh Q w wr B bd bv n s) (off k : Int) (ho1 : -9223372036854775808 ≤ off) (ho2 : off ≤ 9223372036854775807) :
    Calls Try.prog 14 #[.pointer (some ⟨B, 0, none⟩), .int .i64 off, .int .i64 k] wr fun e w' => e = .returned (.tuple #[.string (readS s n off k).1, .int .i64 (readS s n off k).2]) ∧ wr = w' := held_read h.held off k ho1 ho2
theorem lh_read_all (h : Lh Q w wr B bd bv n s) (ho : s.off = false) :
    Calls Try.prog 14 #[.pointer (some ⟨B, 0, none⟩), .int .i64 0, .int .i64 n] wr fun e w' => e = .returned (.tuple #[.string ⟨s.vis.toArray⟩, .int .i64 0]) ∧ wr = w' := by
  have := lh_read h 0 n (by omega) (by omega)
  rw [read_all s n ho h.lv.1] at this
  exact this
theorem Lh.start {w w1 w2 : World} {n B bd bv : Nat} (b1 : Fr (fun k => w.heap.size ≤ k) w w1) (hL : Live w.heap.size w2 B bd bv n (fresh n)) (f2 : Fr (fun k => w.heap.size ≤ k) w1 w2) : Lh (fun _ => False) w w2 B bd bv n (fresh n) where
  held := by
    obtain ⟨pv, h1, h2⟩ := hL
    refine ⟨pv, h1, fun k hk => ?_⟩
    rintro (e | e)
    · have := h2 k hk; omega
    · exact e
  fr := b1.trans f2
  q := fun _ h => h.elim
/-- A call, or a row, that touches only what is newer than the disk. -/
theorem Lh.newer {w' : World} {m : Nat} (h : Lh Q w wr B bd bv n s) (hm : wr.heap.size ≤ m) (f : Fr (fun k => m ≤ k) wr w') : Lh Q w w' B bd bv n s where
  held := by
    obtain ⟨pv, h1, h2⟩ := h.held
    exact ⟨pv, h1.keep (fun k hk => f.block k (h1.lt k hk) (by have := h1.lt k hk; omega)), h2⟩
  fr := h.fr.then f (fun i hi hh => by have := h.fr.size; omega)
  q := fun k hk => Nat.lt_of_lt_of_le (h.q k hk) f.size
end
/-- A row of ints as the argument of Crash. -/
theorem keeps_own {w : World} {base : Nat} {v : Value} {xs : List Int} (h : w.ownsRow base 3 1 v xs.length (ints xs)) : Keeps w v xs := by
  obtain ⟨g, ad, cap, tl, rfl, h1, h2, h3⟩ := own_view h
  refine ⟨ad, cap, rfl, fun hp => ?_⟩
  obtain ⟨rfl, hr⟩ := h3 hp
  refine ⟨g, 0, rfl, row_lt hr, fun j hj => ?_⟩
  rw [row_cell hr, Nat.zero_add, List.getElem?_append_left (by simp [ints]; exact hj)]
  simp [ints, hj]
theorem own_kept {w w' : World} {base : Nat} {e : TypeId} {sz n : Nat} {v : Value} {xs : List Value} (h : w.ownsRow base e sz v n xs) (hk : ∀ k, v.ownBlock = some k → w'.heap[k]? = w.heap[k]?) : w'.ownsRow base e sz v n xs := by
  refine ⟨h.1, ?_⟩
  rcases h.2 with hn | ⟨g, cap, cur, rfl, hb, hgg, rest⟩
  · exact .inl hn
  · exact .inr ⟨g, cap, cur, rfl, hb, (hk g rfl).trans hgg, rest⟩
theorem own_base {w : World} {base : Nat} {e : TypeId} {sz n : Nat} {v : Value} {xs : List Value} (h : w.ownsRow base e sz v n xs) : ∀ k, v.ownBlock = some k → base ≤ k ∧ k < w.heap.size := fun k hk => by
  rcases h.2 with ⟨rfl, _⟩ | ⟨g, cap, cur, rfl, hb, hgg, rest⟩
  · simp [Value.ownBlock] at hk
  · simp [Value.ownBlock] at hk
    subst hk
    exact ⟨hb, row_lt hgg⟩
theorem own_grown {w w' : World} {base : Nat} {e : TypeId} {sz n : Nat} {v : Value} {xs : List Value} (h : w.ownsRow base e sz v n xs) (hg : w.grownBy w' v.ownBlock) : Fr (fun k => base ≤ k) w w' :=
  ⟨hg.os, hg.tape, hg.output, hg.size, fun k hk hs => hg.block k hk (fun e => hs (own_base h k e.symm).1)⟩
/-- append(keep, x) on a row of ints of one's own. -/
theorem append_int {w : World} {base : Nat} {v : Value} {ks : List Int} (h : w.ownsRow base 3 1 v ks.length (ints ks)) (hb : base ≤ w.heap.size) (hk : ks.length ≤ 1000000) (x : Int)
    {ops : Array Oper} {rest : List Oper} {o : Oper} {a : Act} {Q : Exit → Act → World → Prop} (hgd : o.guard = none) (s y : Operand) (ho : o.op = .call { callee := .builtin .append, args := #[s, y], argTypes := #[37, 37] })
    {W : World} (hW : W = w.alloc (.cells #[.int .i64 x] 3)) (hs : a.eval s = v) (hy : a.eval y = .slice (some ⟨w.heap.size, 0, none⟩) 1 1)
    (hh : ∀ v' w', w'.ownsRow base 3 1 v' (ks ++ [x]).length (ints (ks ++ [x])) → (w.alloc (.cells #[.int .i64 x] 3)).grownBy w' v.ownBlock → wpList Try.prog ops Q rest (a.put o.dst v') w') :
    wpList Try.prog ops Q (o :: rest) a W := by
  subst hW
  obtain ⟨i0, hi0, hz0, hz1, hz2⟩ := info_parts info3
  refine wpList_append_own _ hgd s y 37 ho base 3 i0 (.int .i64 0) 1 8 Try.underlying37 hi0 hz0 hz1 hz2 rfl (by decide) v ks.length (ints ks) hs (h.alloc _) ⟨w.heap.size, 0, none⟩ 1 1 [.int .i64 x] hy rfl (cell_one_new _ _ _) (by simp [Value.oneCell']) (by unfold maxLen; omega) (by omega) (by simp; omega) ?_
  intro v' w' h1 h2 _
  refine hh v' w' ?_ h2
  have e1 : (ks ++ [x]).length = ks.length + 1 := by simp
  have e2 : ints (ks ++ [x]) = ints ks ++ [.int .i64 x] := by simp [ints]
  rw [e1, e2]
  exact h1
theorem allTo_succ (k : Nat) : allTo k ++ [(k : Int)] = allTo (k + 1) := by simp [allTo, List.range_succ]
end Go.Proofs.Ytlnngeafhinpkaa
