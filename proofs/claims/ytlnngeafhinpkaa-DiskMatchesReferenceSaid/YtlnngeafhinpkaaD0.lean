/- The disk as lists of bytes, the frame of a call, and laws of the walk for the built-in functions copy, clear and the conversion of bytes to a string. No condition. -/
import Derived.Test.YtlnngeafhinpkaaProg
import Derived.WalkKit
import Derived.WalkSpells
import Derived.WalkLawsBesides
import Derived.Lib.AppendStr
set_option linter.unusedVariables false
set_option linter.unusedSimpArgs false
namespace Go.Proofs.Ytlnngeafhinpkaa
open Go.RowKit

theorem hid {p : Prop} (h : p) : Hid p := h

/-! ### 1. Bytes -/
abbrev Bs := List UInt8
def bvs (l : Bs) : List Value := l.map fun b => Value.int .u8 b.toNat
theorem bvs_length (l : Bs) : (bvs l).length = l.length := by simp [bvs]
theorem bvs_append (a b : Bs) : bvs (a ++ b) = bvs a ++ bvs b := by simp [bvs]
theorem bvs_take (a : Bs) (n : Nat) : (bvs a).take n = bvs (a.take n) := by simp [bvs]
theorem bvs_drop (a : Bs) (n : Nat) : (bvs a).drop n = bvs (a.drop n) := by simp [bvs]
theorem bvs_one (l : Bs) : ∀ u ∈ bvs l, u.oneCell' = true := by
  intro u hu
  simp only [bvs, List.mem_map] at hu
  obtain ⟨b, _, rfl⟩ := hu
  rfl
theorem bvs_get (l : Bs) (i : Nat) (h : i < l.length) : (bvs l)[i]? = some (.int .u8 (l[i]'h).toNat) := by simp [bvs, h]

/-- s laid over b from o on. -/
def put (b : Bs) (o : Nat) (s : Bs) : Bs := b.take o ++ (s ++ b.drop (o + s.length))
theorem put_length (b : Bs) (o : Nat) (s : Bs) (h : o + s.length ≤ b.length) : (put b o s).length = b.length := by simp [put]; omega
theorem put_nil (b : Bs) (o : Nat) : put b o [] = b := by simp [put]
theorem bvs_put (b : Bs) (o : Nat) (s : Bs) : bvs (put b o s) = (bvs b).take o ++ (bvs s ++ (bvs b).drop (o + s.length)) := by simp [put, bvs_append, bvs_take, bvs_drop]

/-! ### 2. What a call leaves alone -/
structure Fr (S : Nat → Prop) (w w' : World) : Prop where
  os : w'.os = w.os
  tape : w'.tape = w.tape
  output : w'.output = w.output
  size : w.heap.size ≤ w'.heap.size
  block : ∀ k, k < w.heap.size → ¬ S k → w'.heap[k]? = w.heap[k]?
theorem Fr.refl (S : Nat → Prop) (w : World) : Fr S w w := ⟨rfl, rfl, rfl, Nat.le_refl _, fun _ _ _ => rfl⟩
theorem Fr.trans {S : Nat → Prop} {a b c : World} (h : Fr S a b) (k : Fr S b c) : Fr S a c :=
  ⟨k.os.trans h.os, k.tape.trans h.tape, k.output.trans h.output, Nat.le_trans h.size k.size, fun i hi hs => (k.block i (Nat.lt_of_lt_of_le hi h.size) hs).trans (h.block i hi hs)⟩
/-- The second may touch what is new, too. -/
theorem Fr.then {S T : Nat → Prop} {a b c : World} (h : Fr S a b) (k : Fr T b c) (hT : ∀ i, i < a.heap.size → T i → S i) : Fr S a c :=
  ⟨k.os.trans h.os, k.tape.trans h.tape, k.output.trans h.output, Nat.le_trans h.size k.size, fun i hi hs => (k.block i (Nat.lt_of_lt_of_le hi h.size) (fun ht => hs (hT i hi ht))).trans (h.block i hi hs)⟩
theorem Fr.mono {S T : Nat → Prop} {a b : World} (h : Fr S a b) (hT : ∀ i, i < a.heap.size → S i → T i) : Fr T a b :=
  ⟨h.os, h.tape, h.output, h.size, fun i hi hs => h.block i hi (fun ht => hs (hT i hi ht))⟩
theorem Fr.drew {S : Nat → Prop} {a b : World} (h : Fr S a b) : Fr S a b.drew := ⟨h.os, h.tape, h.output, h.size, h.block⟩
theorem Fr.drewN {S : Nat → Prop} {a b : World} (h : Fr S a b) (n : Nat) : Fr S a (b.drewN n) := ⟨h.os, h.tape, h.output, h.size, h.block⟩
theorem Fr.alloc {S : Nat → Prop} {a b : World} (h : Fr S a b) (o : Obj) : Fr S a (b.alloc o) :=
  h.trans ⟨rfl, rfl, rfl, by simp, fun k hk _ => Below.heap_alloc _ _ _ hk⟩
theorem Fr.setCell {S : Nat → Prop} {a b : World} (h : Fr S a b) {p : Addr} (hp : p.block < a.heap.size → S p.block) (u : Value) : Fr S a (b.setCell p u) :=
  h.then (T := fun k => k = p.block) ⟨rfl, rfl, rfl, by simp [World.setCell], fun k hk hs => Below.heap_setCell _ _ _ _ hs⟩ (fun i hi e => by subst e; exact hp hi)
theorem Fr.set1 {S : Nat → Prop} {a b : World} {B : Nat} (h : Fr S a b) (hS : S B) (i : Nat) (u : Value) : Fr S a (b.setCell ⟨B, i, none⟩ u) := h.setCell (fun _ => hS) u
theorem Fr.setRow {S : Nat → Prop} {a b : World} (h : Fr S a b) {g : Nat} (hg : g < a.heap.size → S g) (cs : Array Value) : Fr S a (b.setRow g cs) :=
  h.then (T := fun k => k = g) ⟨rfl, rfl, rfl, by simp [World.setRow], fun k hk hs => setRow_other _ _ _ _ hs⟩ (fun i hi e => by subst e; exact hg hi)
theorem Fr.grown {S : Nat → Prop} {a b c : World} (h : Fr S a b) {row : Option Nat} (hg : b.grownBy c row) (hr : ∀ k, row = some k → k < a.heap.size → S k) : Fr S a c :=
  h.then (T := fun k => some k = row) ⟨hg.os, hg.tape, hg.output, hg.size, fun k hk hs => hg.block k hk hs⟩ (fun i hi e => hr i e.symm hi)
theorem Fr.below {S : Nat → Prop} {a b : World} (h : Fr S a b) {B : Nat} (hB : B ≤ a.heap.size) (hS : ∀ k, S k → B ≤ k) : Below B a b :=
  ⟨h.os, h.tape, h.output, h.size, fun k hk => h.block k (by omega) (fun hs => by have := hS k hs; omega)⟩
theorem Fr.of_below {B : Nat} {a b : World} (h : Below B a b) : Fr (fun k => B ≤ k) a b :=
  ⟨h.os, h.tape, h.output, h.size, fun k _ hs => h.block k (by omega)⟩

/-! ### 3. Rows -/
theorem row_cell {w : World} {g : Nat} {l : List Value} {t : TypeId} (h : w.heap[g]? = some (.cells l.toArray t (0, 0))) (i : Nat) : w.cell? ⟨g, i, none⟩ = l[i]? := by
  simp [World.cell?, h]
theorem row_free {w : World} {g : Nat} {cs : Array Value} {t : TypeId} (h : w.heap[g]? = some (.cells cs t (0, 0))) (i : Nat) : w.frozen? ⟨g, i, none⟩ = false := by
  simp [World.frozen?, h]
theorem row_lt {w : World} {g : Nat} {o : Obj} (h : w.heap[g]? = some o) : g < w.heap.size := (Array.getElem?_eq_some_iff.1 h).1

section
variable {P : Program}
theorem step_of {ops : Array Oper} {o : Oper} {a : Act} {w : World} {K : Act → World → Prop} {Q : Exit → Act → World → Prop} {E : Prop} (hgd : o.guard = none) (h : o.wp P a w K Q) :
    if Region.wanted o (yielded ops a.tmps) = true then o.wp P a w K Q else E := by
  have hw : Region.wanted o (yielded ops a.tmps) = true := by simp [Region.wanted, hgd]
  rw [if_pos hw]
  exact h
theorem list_of {ops : Array Oper} {rest : List Oper} {o : Oper} {a : Act} {w : World} {Q : Exit → Act → World → Prop} (hgd : o.guard = none) (h : o.wp P a w (wpList P ops Q rest) Q) :
    wpList P ops Q (o :: rest) a w := by
  unfold wpList
  rw [if_pos (by simp [Region.wanted, hgd])]
  exact .inl h
theorem run_copy_str (w : World) (dT sT ty elem : TypeId) (g o dLen dCap : Nat) (s : ByteArray) (cur : List Value) (t : TypeId)
    (hu : P.underlying dT = some (.slice elem)) (hs : (P.info? elem).map (·.size) = some 1) (hg : w.heap[g]? = some (.cells cur.toArray t (0, 0)))
    (hn : s.size ≤ dLen) (hfit : o + s.size ≤ cur.length) :
    (Builtin.copy_ #[dT, sT] ty #[.slice (some ⟨g, o, none⟩) dLen dCap, .string s]).run P w =
      .ok (goInt s.size) (w.setRow g (cur.take o ++ Lib.strCells s ++ cur.drop (o + s.size)).toArray) := by
  have hf := Lib.run_firstCells_string (P := P) w 1 s
  have hst := run_storeCells_at P g o t (Lib.strCells s) 0 cur.toArray w hg (by simpa [Lib.strCells_length] using hfit) (Lib.strCells_oneCell s)
  simp only [Nat.add_zero, Lib.strCells_length] at hst
  cases hq : P.info? elem with
  | none => simp [hq] at hs
  | some i =>
    have hi : i.size = 1 := by simpa [hq] using hs
    have hm : s.size.min dLen = s.size := Nat.min_eq_left hn
    have hso : (sizeOf elem).run P w = .ok 1 w := by simp [sizeOf, typeInfo, hq, hi]
    simp only [Builtin.copy_, List.getElem?_toArray, List.getElem?_cons_zero, List.getElem?_cons_succ, Sem.run_bind, run_underlying hu, Result.andThen_ok, Builtin.lenOf, Sem.run_pure, hso, hm, hf, hst]

/-- copy(b[off:], s) where all of s goes over. -/
theorem wp_copy_str {w : World} {o : Oper} {a : Act} {K : Act → World → Prop} {Q : Exit → Act → World → Prop} (d s : Operand) (dT sT : TypeId)
    (ho : o.op = .call { callee := .builtin .copy, args := #[d, s], argTypes := #[dT, sT] }) (elem : TypeId) (hu : P.underlying dT = some (.slice elem)) (hsz : (P.info? elem).map (·.size) = some 1)
    (dp : Option Addr) (dLen dCap : Nat) (hd : a.eval d = .slice dp dLen dCap) (str : ByteArray) (hs : a.eval s = .string str)
    (g off : Nat) (cur : Bs) (t : TypeId) (hg : w.heap[g]? = some (.cells (bvs cur).toArray t (0, 0)))
    (hpos : 0 < str.size → dp = some ⟨g, off, none⟩) (hn : str.size ≤ dLen) (hfit : off + str.size ≤ cur.length)
    (h : ∀ w', w'.heap[g]? = some (.cells (bvs (put cur off str.data.toList)).toArray t (0, 0)) → Fr (fun k => k = g) w w' → K (a.put o.dst (goInt str.size)) w') :
    o.wp P a w K Q := by
  have hl : str.data.toList.length = str.size := by rw [Array.length_toList]; rfl
  by_cases h0 : str.size = 0
  · have hnil : str.data.toList = [] := List.eq_nil_of_length_eq_zero (by omega)
    have hrun : (Builtin.copy_ #[dT, sT] o.type #[.slice dp dLen dCap, .string str]).run P w = .ok (goInt str.size) w := by
      cases hq : P.info? elem with
      | none => simp [hq] at hsz
      | some i =>
        have hm : str.size.min dLen = str.size := Nat.min_eq_left hn
        have hf := Lib.run_firstCells_string (P := P) w i.size str
        have he : Lib.strCells str = [] := by unfold Lib.strCells; rw [hnil]; rfl
        have hso : (sizeOf elem).run P w = .ok i.size w := by simp [sizeOf, typeInfo, hq]
        cases dp with
        | none => simp only [Builtin.copy_, List.getElem?_toArray, List.getElem?_cons_zero, List.getElem?_cons_succ, Sem.run_bind, run_underlying hu, Result.andThen_ok, Builtin.lenOf, Sem.run_pure, hso, hm, hf]
        | some ad => simp only [Builtin.copy_, List.getElem?_toArray, List.getElem?_cons_zero, List.getElem?_cons_succ, Sem.run_bind, run_underlying hu, Result.andThen_ok, Builtin.lenOf, Sem.run_pure, hso, hm, hf, he, storeCells]
    unfold Oper.wp
    simp [execOp, ho, resolve, invoke, builtin, hd, hs, hrun, Result.andThen]
    exact (h w (by rw [hnil, put_nil]; exact hg) (Fr.refl _ _))
  · obtain rfl := hpos (by omega)
    have hrun := run_copy_str (P := P) w dT sT o.type elem g off dLen dCap str (bvs cur) t hu hsz hg hn (by rw [bvs_length]; exact hfit)
    unfold Oper.wp
    simp [execOp, ho, resolve, invoke, builtin, hd, hs, hrun, Result.andThen]
    refine (h _ ?_ ((Fr.refl (fun k => k = g) w).setRow (g := g) (fun _ => rfl) _))
    rw [setRow_heap w g _ _ t _ hg]
    congr 3
    rw [bvs_put, hl]
    rfl

/-- copy(dst, src) of two whole rows of bytes. -/
theorem wp_copy_row {w : World} {o : Oper} {a : Act} {K : Act → World → Prop} {Q : Exit → Act → World → Prop} (d s : Operand) (dT sT : TypeId)
    (ho : o.op = .call { callee := .builtin .copy, args := #[d, s], argTypes := #[dT, sT] }) (elem : TypeId) (hu : P.underlying dT = some (.slice elem)) (hsz : (P.info? elem).map (·.size) = some 1)
    (g f : Nat) (n c1 c2 : Nat) (hd : a.eval d = .slice (some ⟨g, 0, none⟩) n c1) (hs : a.eval s = .slice (some ⟨f, 0, none⟩) n c2)
    (cur src : Bs) (t t' : TypeId) (hg : w.heap[g]? = some (.cells (bvs cur).toArray t (0, 0))) (hf : w.heap[f]? = some (.cells (bvs src).toArray t' (0, 0))) (h1 : cur.length = n) (h2 : src.length = n)
    (h : ∀ w', w'.heap[g]? = some (.cells (bvs src).toArray t (0, 0)) → Fr (fun k => k = g) w w' → K (a.put o.dst (goInt n)) w') :
    o.wp P a w K Q := by
  have hrun := run_copy_row (P := P) w dT sT o.type elem g 0 n c1 ⟨f, 0, none⟩ n c2 (bvs cur).toArray t (bvs src) hu hsz hg (by simp [bvs_length, h2])
    (by intro j v hj; have : (⟨f, 0, none⟩ : Addr).add j = ⟨f, j, none⟩ := by unfold Addr.add; split <;> simp_all
        rw [this, row_cell hf]; exact hj) (by simp [bvs_length, h1, h2]) (bvs_one src)
  have e : ((bvs cur).toArray.toList.take 0 ++ bvs src ++ (bvs cur).toArray.toList.drop (0 + (bvs src).length)) = bvs src := by simp [bvs_length, h1, h2]
  rw [e, bvs_length, h2] at hrun
  unfold Oper.wp
  simp [execOp, ho, resolve, invoke, builtin, hd, hs, hrun, Result.andThen]
  exact (h _ (setRow_heap w g _ _ t _ hg) ((Fr.refl (fun k => k = g) w).setRow (g := g) (fun _ => rfl) _))

/-- clear(s) of an owned row: it stays a row of so many cells. -/
theorem wp_clear_own {w : World} {o : Oper} {a : Act} {K : Act → World → Prop} {Q : Exit → Act → World → Prop} (s : Operand) (T : TypeId)
    (ho : o.op = .call { callee := .builtin .clear, args := #[s], argTypes := #[T] }) (e : TypeId) (hu : P.underlying T = some (.slice e)) (z : Value) (size : Nat)
    (hz : ∀ W : World, (zeroValue e).run P W = .ok z W) (hzs : z.cells.size = size) (hz1 : ∀ u ∈ z.cells, u.oneCell' = true)
    (v : Value) (n : Nat) (xs : List Value) (hv : a.eval s = v) (hown : w.ownsRow 0 e size v n xs)
    (h : ∀ w' ys, w'.ownsRow 0 e size v n ys → w.grownBy w' v.ownBlock → K (a.put o.dst (.tuple #[])) w') :
    o.wp P a w K Q := by
  obtain ⟨hl, hr⟩ := hown
  rcases hr with ⟨rfl, rfl⟩ | ⟨g, cap, cur, rfl, hb, hg, hnc, hcm, hcs, htake⟩
  · have hrun : (Builtin.clear_ #[T] o.type #[.slice none 0 0]).run P w = .ok (.tuple #[]) w := by simp [Builtin.clear_, run_underlying hu]
    unfold Oper.wp
    simp [execOp, ho, resolve, invoke, builtin, hv, hrun, Result.andThen]
    exact (h w xs ⟨hl, .inl ⟨rfl, rfl⟩⟩ ⟨rfl, rfl, rfl, Nat.le_refl _, fun _ _ _ => rfl⟩)
  · by_cases hn : n = 0
    · subst hn
      have hrun : (Builtin.clear_ #[T] o.type #[.slice (some ⟨g, 0, none⟩) 0 cap]).run P w = .ok (.tuple #[]) w := by simp [Builtin.clear_, run_underlying hu]
      unfold Oper.wp
      simp [execOp, ho, resolve, invoke, builtin, hv, hrun, Result.andThen]
      exact (h w xs ⟨hl, .inr ⟨g, cap, cur, rfl, hb, hg, hnc, hcm, hcs, htake⟩⟩ ⟨rfl, rfl, rfl, Nat.le_refl _, fun _ _ _ => rfl⟩)
    · have hzl : (Builtin.zeroCells z.cells n).toList.length = n * size := by rw [Array.length_toList, size_zeroCells, hzs]
      have hst := run_storeCells_at P g 0 e (Builtin.zeroCells z.cells n).toList 0 cur w hg (by rw [hzl, hcs]; simp; exact Nat.mul_le_mul_right _ hnc) (by
        intro u hu
        simp only [Builtin.zeroCells, Array.toList_map, List.mem_map] at hu
        obtain ⟨i, hi, rfl⟩ := hu
        have h0 : 0 < z.cells.size := by
          rcases Nat.eq_zero_or_pos z.cells.size with h0 | h0
          · simp [h0] at hi
          · exact h0
        have hlt : i % z.cells.size < z.cells.size := Nat.mod_lt _ h0
        rw [getElem!_pos z.cells _ hlt]
        exact hz1 _ (Array.getElem_mem hlt))
      simp only [Nat.add_zero, Nat.zero_add, List.take_zero, List.nil_append] at hst
      have hrun : (Builtin.clear_ #[T] o.type #[.slice (some ⟨g, 0, none⟩) n cap]).run P w = .ok (.tuple #[]) (w.setRow g ((Builtin.zeroCells z.cells n).toList ++ cur.toList.drop (Builtin.zeroCells z.cells n).toList.length).toArray) := by
        have hnn : ∀ (m : Nat), m ≠ 0 → (match (motive := Nat → Bool) m with | 0 => true | _ => false) = false := by intro m hm; cases m <;> simp_all
        cases n with
        | zero => exact absurd rfl hn
        | succ m => simp [Builtin.clear_, run_underlying hu, hz, hst]
      unfold Oper.wp
      simp [execOp, ho, resolve, invoke, builtin, hv, hrun, Result.andThen]
      refine (h _ (Builtin.zeroCells z.cells n).toList ⟨by rw [hzl], .inr ⟨g, cap, _, rfl, hb, setRow_heap w g cur _ e _ hg, hnc, hcm, ?_, ?_⟩⟩ ⟨rfl, rfl, rfl, by simp [World.setRow], fun k _ hk => setRow_other w g k _ (fun e => hk (by simp [Value.ownBlock, e]))⟩)
      · have : n * size ≤ cap * size := Nat.mul_le_mul_right _ hnc
        have hzz : (Builtin.zeroCells z.cells n).size = n * size := by rw [size_zeroCells, hzs]
        simp only [List.size_toArray, List.length_append, List.length_drop, Array.length_toList, hzz, hcs]
        omega
      · rw [← hzl]
        exact List.take_left
end

end Go.Proofs.Ytlnngeafhinpkaa
