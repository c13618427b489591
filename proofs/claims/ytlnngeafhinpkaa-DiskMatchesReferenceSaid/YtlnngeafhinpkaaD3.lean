/- What New, Read, Write, Sync and Cut of the disk do. No condition beside the sizes. -/
import Derived.Test.YtlnngeafhinpkaaD2
import Derived.Deep.OwnRows
import Derived.Deep.RegionHeld3
set_option linter.unusedVariables false
set_option linter.unusedSimpArgs false
namespace Go.Proofs.Ytlnngeafhinpkaa
open Go.RowKit

section
variable {P : Program}
/-- string(b[off:][:k]) -/
theorem wp_conv_bytes {w : World} {o : Oper} {a : Act} {K : Act → World → Prop} {Q : Exit → Act → World → Prop} (x : Operand) (S D : TypeId) (ho : o.op = .convert S D x)
    (e : TypeId) (hs : P.underlying S = some (.slice e)) (he : P.underlying e = some (.int .u8)) (hd : P.underlying D = some .string)
    (ad : Option Addr) (k c : Nat) (hx : a.eval x = .slice ad k c) (g off : Nat) (cur : Bs) (t : TypeId) (hg : w.heap[g]? = some (.cells (bvs cur).toArray t (0, 0)))
    (hpos : 0 < k → ad = some ⟨g, off, none⟩) (hfit : off + k ≤ cur.length)
    (h : K (a.put o.dst (.string ⟨((cur.drop off).take k).toArray⟩)) w) : o.wp P a w K Q := by
  have hrun : (convert S D (.slice ad k c)).run P w = .ok (.string ⟨((cur.drop off).take k).toArray⟩) w := by
    by_cases h0 : k = 0
    · subst h0
      rw [run_convert_bytes_string w S D e ad 0 c hs he hd]
      cases ad with
      | none => simp [Conv.bytesToString]; rfl
      | some ad =>
        rw [run_bytesToString w ad 0 c [] (by simp [loadCells, loadCellsFrom])]
        simp
        rfl
    · obtain rfl := hpos (by omega)
      have hl : (((cur.drop off).take k).map fun b => (b.toNat : Int)).length = k := by simp; omega
      rw [run_convert_bytes_arg w S e hs he g off k c (((cur.drop off).take k).map fun b => (b.toNat : Int)) hl (fun i hi => by
        rw [row_cell hg, bvs_get _ _ (by omega)]
        have h1 : i < (cur.drop off).length := by simp; omega
        simp [List.getD, List.getElem?_take, hi, h1]
        rw [List.getElem?_eq_getElem (by omega)]
        rfl) D hd]
      congr 2
      simp only [strOfNums]
      congr 2
      rw [List.map_map]
      conv => rhs; rw [← List.map_id ((cur.drop off).take k)]
      apply List.map_congr_left
      intro b _
      simp
  unfold Oper.wp
  simp [execOp, ho, hx, hrun, Result.andThen]
  exact h
end

def zeros (n : Nat) : Bs := List.replicate n 0
def fresh (n : Nat) : St := { off := false, left := 0, dur := zeros n, vis := zeros n, pend := [] }
theorem made_zeros (n : Nat) : madeCells #[.int .u8 0] n = (bvs (zeros n)).toArray := by
  apply Array.ext'
  rw [toList_madeCells_one]
  simp [bvs, zeros]

def NewOk (n : Nat) (w : World) (e : Ending) (w' : World) : Prop :=
  ∃ B bd bv, e = .returned (.tuple #[.pointer (some ⟨B, 0, none⟩), .int .i64 0]) ∧ IsDisk w' B bd bv (.slice none 0 0) n (fresh n) ∧ Fr (fun _ => False) w w' ∧ w.heap.size ≤ B ∧ w.heap.size ≤ bd ∧ w.heap.size ≤ bv

theorem info5' : (Try.prog.info? 5).map (fun i => (i.zero, i.size, i.bytes)) = some (some (.int .u8 0), 1, 1) := by kernel_rfl

theorem new_disk (n : Nat) (h1 : 1 ≤ n) (h2 : n ≤ 4194304) (w : World) (x y : Nat) (hxy : (x = w.heap.size ∧ y = w.heap.size + 1) ∨ (y = w.heap.size ∧ x = w.heap.size + 1)) (q : Nat) :
    NewOk n w (.returned (.tuple #[.pointer (some ⟨w.heap.size + 2, 0, none⟩), .int .i64 0]))
      (((((w.alloc (.cells (madeCells #[.int .u8 0] n) 5)).alloc (.cells (madeCells #[.int .u8 0] n) 5)).alloc (.cells #[.bool false, .int .i64 0, .slice (some ⟨x, 0, none⟩) n n, .slice (some ⟨y, 0, none⟩) n n, .slice none 0 0] 65))).drewN q) := by
  have e0 : ∀ o : Obj, (w.alloc o).heap[w.heap.size]? = some o := fun o => heap_alloc_new w o
  have s1 : ∀ o : Obj, (w.alloc o).heap.size = w.heap.size + 1 := fun o => by simp
  rw [made_zeros]
  have k0 : ((((w.alloc (.cells (bvs (zeros n)).toArray 5)).alloc (.cells (bvs (zeros n)).toArray 5)).alloc (.cells #[.bool false, .int .i64 0, .slice (some ⟨x, 0, none⟩) n n, .slice (some ⟨y, 0, none⟩) n n, .slice none 0 0] 65))).heap[w.heap.size]? = some (.cells (bvs (zeros n)).toArray 5 (0, 0)) := by
    rw [Below.heap_alloc _ _ _ (by simp; omega), Below.heap_alloc _ _ _ (by simp)]; exact e0 _
  have k1 : ((((w.alloc (.cells (bvs (zeros n)).toArray 5)).alloc (.cells (bvs (zeros n)).toArray 5)).alloc (.cells #[.bool false, .int .i64 0, .slice (some ⟨x, 0, none⟩) n n, .slice (some ⟨y, 0, none⟩) n n, .slice none 0 0] 65))).heap[w.heap.size + 1]? = some (.cells (bvs (zeros n)).toArray 5 (0, 0)) := by
    rw [Below.heap_alloc _ _ _ (by simp)]
    have := heap_alloc_new (w.alloc (.cells (bvs (zeros n)).toArray 5)) (.cells (bvs (zeros n)).toArray 5)
    rwa [s1] at this
  have k2 : ((((w.alloc (.cells (bvs (zeros n)).toArray 5)).alloc (.cells (bvs (zeros n)).toArray 5)).alloc (.cells #[.bool false, .int .i64 0, .slice (some ⟨x, 0, none⟩) n n, .slice (some ⟨y, 0, none⟩) n n, .slice none 0 0] 65))).heap[w.heap.size + 2]? = some (.cells [.bool false, .int .i64 0, .slice (some ⟨x, 0, none⟩) n n, .slice (some ⟨y, 0, none⟩) n n, .slice none 0 0].toArray 65 (0, 0)) := by
    have := heap_alloc_new ((w.alloc (.cells (bvs (zeros n)).toArray 5)).alloc (.cells (bvs (zeros n)).toArray 5)) (.cells #[.bool false, .int .i64 0, .slice (some ⟨x, 0, none⟩) n n, .slice (some ⟨y, 0, none⟩) n n, .slice none 0 0] 65)
    simpa using this
  refine ⟨w.heap.size + 2, x, y, rfl, ?_, (((Fr.refl _ _).alloc _).alloc _ |>.alloc _).drewN q, by omega, by omega, by omega⟩
  refine { hB := k2, hd := ?_, hv := ?_, hp := World.ownsRow_nil _ _ _ _, ne := by omega, ld := by simp [fresh, zeros], lv := by simp [fresh, zeros], n1 := h1, n2 := h2 }
  · rcases hxy with ⟨rfl, rfl⟩ | ⟨rfl, rfl⟩
    · exact k0
    · exact k1
  · rcases hxy with ⟨rfl, rfl⟩ | ⟨rfl, rfl⟩
    · exact k1
    · exact k0

set_option maxRecDepth 100000 in
set_option maxHeartbeats 1600000 in
theorem new_ok (n : Nat) (h1 : 1 ≤ n) (h2 : n ≤ 4194304) (w : World) : Calls Try.prog 13 #[.int .i64 n] w (NewOk n w) := by
  have hmk := run_make_row' (P := Try.prog) 40 5 (.int .u8 0) 1 rfl info5' rfl .i64 .i64 n (by omega) (by omega)
  go_enter Try.func13, Try.ntmps13
  go_wp2
  go_region
  all_goals (try go_wp2)
  all_goals go_ret2
  all_goals first
    | exact new_disk n h1 h2 w _ _ (.inl ⟨rfl, rfl⟩) 1
    | exact new_disk n h1 h2 w _ _ (.inr ⟨rfl, rfl⟩) 1

set_option maxRecDepth 100000 in
set_option maxHeartbeats 800000 in
theorem new_bad (z : Int) (h : z < 1 ∨ 4194304 < z) (w : World) : Calls Try.prog 13 #[.int .i64 z] w fun e w' => e = .returned (.tuple #[.pointer none, .int .i64 2]) ∧ w = w' := by
  by_cases h1 : z < 1
  · go_enter Try.func13, Try.ntmps13
    go_wp2
    go_ret2
    exact ⟨rfl, rfl⟩
  · have h2 : 4194304 < z := by omega
    go_enter Try.func13, Try.ntmps13
    go_wp2
    go_ret2
    exact ⟨rfl, rfl⟩

end Go.Proofs.Ytlnngeafhinpkaa
