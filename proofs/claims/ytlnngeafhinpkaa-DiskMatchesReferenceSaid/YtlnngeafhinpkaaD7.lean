/- slices.DeleteFunc and slices.IndexFunc at the closure of Crash: what is below 0 or not below the number of pending writes is deleted. No condition beside the sizes. -/
import Derived.Test.YtlnngeafhinpkaaD0
import Derived.Deep.QuietTactic
import Derived.BigQuiet
set_option linter.unusedVariables false
set_option linter.unusedSimpArgs false
namespace Go.Proofs.Ytlnngeafhinpkaa
open Go.RowKit

def ints (l : List Int) : List Value := l.map (Value.int .i64)
theorem ints_length (l : List Int) : (ints l).length = l.length := by simp [ints]
theorem ints_get (l : List Int) (i : Nat) (h : i < l.length) : (ints l)[i]? = some (.int .i64 (l[i]'h)) := by simp [ints, h]

section
variable {P : Program}
/-- clear(s[off:]) of a row of numbers. -/
theorem wp_clear_ints {w : World} {o : Oper} {a : Act} {K : Act → World → Prop} {Q : Exit → Act → World → Prop} (s : Operand) (T : TypeId)
    (ho : o.op = .call { callee := .builtin .clear, args := #[s], argTypes := #[T] }) (e : TypeId) (hu : P.underlying T = some (.slice e))
    (hz : ∀ W : World, (zeroValue e).run P W = .ok (.int .i64 0) W) (ad : Option Addr) (k c : Nat) (hv : a.eval s = .slice ad k c) (g off : Nat) (ys : List Int) (tl : List Value) (t : TypeId)
    (hg : w.heap[g]? = some (.cells (ints ys ++ tl).toArray t (0, 0))) (hpos : 0 < k → ad = some ⟨g, off, none⟩) (hfit : off + k ≤ ys.length)
    (h : ∀ w', w'.heap[g]? = some (.cells (ints (ys.take off ++ (List.replicate k 0 ++ ys.drop (off + k))) ++ tl).toArray t (0, 0)) → Fr (fun i => i = g) w w' → K (a.put o.dst (.tuple #[])) w') :
    o.wp P a w K Q := by
  by_cases h0 : k = 0
  · subst h0
    have hrun : (Builtin.clear_ #[T] o.type #[.slice ad 0 c]).run P w = .ok (.tuple #[]) w := by
      cases ad <;> simp [Builtin.clear_, run_underlying hu]
    unfold Oper.wp
    simp [execOp, ho, resolve, invoke, builtin, hv, hrun, Result.andThen]
    exact h w (by simpa using hg) (Fr.refl _ _)
  · obtain rfl := hpos (by omega)
    have hzl : (Builtin.zeroCells (Value.int .i64 0).cells k).toList = ints (List.replicate k 0) := by
      simp [Builtin.zeroCells, Value.cells, ints]
      apply List.ext_getElem
      · simp
      · intro i h1 h2
        simp
        have : i % 1 = 0 := by omega
        simp [this]
    have hst := run_storeCells_at P g off t (ints (List.replicate k 0)) 0 (ints ys ++ tl).toArray w hg (by simp [ints_length]; omega) (by
      intro u hu
      simp only [ints, List.mem_map] at hu
      obtain ⟨x, _, rfl⟩ := hu
      rfl)
    have hrun : (Builtin.clear_ #[T] o.type #[.slice (some ⟨g, off, none⟩) k c]).run P w = .ok (.tuple #[]) (w.setRow g (ints (ys.take off ++ (List.replicate k 0 ++ ys.drop (off + k))) ++ tl).toArray) := by
      have e1 : ((ints ys ++ tl).toArray.toList.take (off + 0) ++ ints (List.replicate k 0) ++ (ints ys ++ tl).toArray.toList.drop (off + 0 + (ints (List.replicate k 0)).length)) = ints (ys.take off ++ (List.replicate k 0 ++ ys.drop (off + k))) ++ tl := by
        have h1 : (ints ys ++ tl).take off = ints (ys.take off) := by rw [List.take_append_of_le_length (by rw [ints_length]; omega)]; simp [ints]
        have h2 : (ints ys ++ tl).drop (off + k) = ints (ys.drop (off + k)) ++ tl := by rw [List.drop_append_of_le_length (by rw [ints_length]; omega)]; simp [ints]
        simp only [Nat.add_zero, ints_length, List.length_replicate, h1, h2]
        simp [ints]
      rw [e1] at hst
      cases k with
      | zero => exact absurd rfl h0
      | succ m => simp [Builtin.clear_, run_underlying hu, hz, hzl, hst]
    unfold Oper.wp
    simp [execOp, ho, resolve, invoke, builtin, hv, hrun, Result.andThen]
    exact h _ (setRow_heap w g _ _ t _ hg) ((Fr.refl (fun i => i = g) w).setRow (g := g) (fun _ => rfl) _)
end

def bad (m : Nat) (i : Int) : Bool := decide (i < 0) || decide ((m : Int) ≤ i)

set_option maxHeartbeats 800000 in
theorem closure_any (w : World) (Bx B m c : Nat) (a : Option Addr) (i : Int) (hx : w.cell? ⟨Bx, 0, none⟩ = some (.pointer (some ⟨B, 0, none⟩))) (hp : w.cell? ⟨B, 4, none⟩ = some (.slice a m c)) :
    Calls Try.prog 42 #[.int .i64 i, .pointer (some ⟨Bx, 0, none⟩)] w fun e w' => e = .returned (.bool (bad m i)) ∧ w = w' := by
  by_cases h : i < 0
  · go_enter Try.func42, Try.ntmps42
    go_wp2
    go_ret
    exact ⟨by simp [bad, h], rfl⟩
  · by_cases h2 : (m : Int) ≤ i
    · go_enter Try.func42, Try.ntmps42
      go_wp2
      go_ret
      exact ⟨by simp [bad, h2], rfl⟩
    · go_enter Try.func42, Try.ntmps42
      go_wp2
      go_ret
      exact ⟨by simp [bad, h2]; omega, rfl⟩

/-- The first index at which p holds; -1. -/
def firstBad (m : Nat) (zs : List Int) (k : Nat) : Int := if k < zs.length then (if bad m (zs[k]?.getD 0) then (k : Int) else firstBad m zs (k + 1)) else -1
termination_by zs.length - k

set_option maxRecDepth 100000 in
set_option maxHeartbeats 1600000 in
theorem index_any (w : World) (Bx B m c g n cap : Nat) (a : Option Addr) (ad : Option Addr) (zs : List Int) (tl : List Value) (hx : w.cell? ⟨Bx, 0, none⟩ = some (.pointer (some ⟨B, 0, none⟩))) (hp : w.cell? ⟨B, 4, none⟩ = some (.slice a m c))
    (hn : n ≤ 1000000) (hl : n ≤ zs.length) (hg : 0 < n → ad = some ⟨g, 0, none⟩ ∧ w.heap[g]? = some (.cells (ints zs ++ tl).toArray 3 (0, 0))) :
    Calls Try.prog 48 #[.slice ad n cap, .func (.func 42) #[] #[.pointer (some ⟨Bx, 0, none⟩)]] w fun e w' => e = .returned (.int .i64 (firstBad m (zs.take n) 0)) ∧ w = w' := by
  have HG := hid hg
  clear hg
  have HL := hid hl
  clear hl
  have HF := hid (rfl : firstBad m (zs.take n) 0 = firstBad m (zs.take n) 0)
  generalize hR : firstBad m (zs.take n) 0 = R
  have HR := hid hR
  clear hR HF
  go_enter Try.func48, Try.ntmps48
  go_wp2
  go_loop [5, 8] (fun _ i => ∃ k : Nat, k ≤ n ∧ i = .int .i64 k ∧ Hid (firstBad m (zs.take n) k = R)) (fun _ i => n - (intOf i).toNat)
  case atStart => exact ⟨0, Nat.zero_le _, rfl, HR⟩
  case round =>
    obtain ⟨k, hk, rfl, hF⟩ := hrel
    by_cases hlt : k < n
    · obtain ⟨had, hrow⟩ := HG.out (by omega)
      have HAD := hid had
      clear had
      obtain rfl := HAD.out
      have hkl : k < zs.length := by have := HL.out; omega
      have hcell : w.cell? ⟨g, k, none⟩ = some (.int .i64 (zs[k]?.getD 0)) := by rw [row_cell hrow, List.getElem?_append_left (by rw [ints_length]; exact hkl), ints_get _ _ hkl]; simp [hkl]
      have hF2 := hF.out
      rw [firstBad, if_pos (by simp; omega)] at hF2
      have e1 : (zs.take n)[k]?.getD 0 = zs[k]?.getD 0 := by simp [List.getElem?_take, hlt]
      rw [e1] at hF2
      clear hrow e1 hkl
      generalize zs[k]?.getD 0 = x at hcell hF2
      cases hb : bad m x with
      | true =>
        rw [hb, if_pos rfl] at hF2
        have HB := hid hb
        have HF2 := hid hF2
        clear hb hF2
        go_wp2_with (go_at_call 42; refine (closure_any _ _ _ _ _ _ _ (by assumption) (by assumption)).mono ?_; rw [HB.out]; rintro e w' ⟨rfl, rfl⟩)
        go_ret
        exact ⟨by rw [← HF2.out]; rfl, rfl⟩
      | false =>
        rw [hb, if_neg (by simp)] at hF2
        have HB := hid hb
        have HF2 := hid hF2
        clear hb hF2
        go_wp2_with (go_at_call 42; refine (closure_any _ _ _ _ _ _ _ (by assumption) (by assumption)).mono ?_; rw [HB.out]; rintro e w' ⟨rfl, rfl⟩)
        go_round
        case rel => exact ⟨k + 1, by omega, by go_num, HF2⟩
        case measure => simp [intOf]; omega
    · have hF2 := hF.out
      rw [firstBad, if_neg (by simp; omega)] at hF2
      have HF2 := hid hF2
      clear hF2
      go_wp2
      go_ret
      exact ⟨by rw [← HF2.out]; rfl, rfl⟩
end Go.Proofs.Ytlnngeafhinpkaa
