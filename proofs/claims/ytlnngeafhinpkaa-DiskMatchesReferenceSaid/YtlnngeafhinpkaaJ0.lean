/- The reference implementation's apply and has. No condition beside the sizes. -/
import Derived.Test.YtlnngeafhinpkaaE7
set_option linter.unusedVariables false
set_option linter.unusedSimpArgs false
namespace Go.Proofs.Ytlnngeafhinpkaa
open Go.RowKit

set_option maxRecDepth 100000 in
set_option maxHeartbeats 1600000 in
theorem apply_any (w : World) (base g n cap o : Nat) (cur : Bs) (s : ByteArray) (hg : w.ownsRow base 5 1 (.slice (some ⟨g, 0, none⟩) n cap) n (bvs cur)) (hl : cur.length = n) (hn : n ≤ 4194304) (hf : o + s.size ≤ n) :
    Calls Try.prog 44 #[.slice (some ⟨g, 0, none⟩) n cap, .int .i64 o, .string s] w fun e w' => e = .returned (.tuple #[]) ∧ w'.ownsRow base 5 1 (.slice (some ⟨g, 0, none⟩) n cap) n (bvs (put cur o s.data.toList)) ∧ Fr (fun k => k = g) w w' := by
  have hsz : s.data.toList.length = s.size := by rw [Array.length_toList]; rfl
  have hcap : n ≤ cap := by
    rcases hg.2 with ⟨hv, _⟩ | ⟨g', cap', cur', hv, hb, hgg, h1, h2, _⟩
    · simp at hv
    · injection hv with _ _ hc
      omega
  have HG := hid hg
  clear hg
  go_enter Try.func44, Try.ntmps44
  go_wp2
  go_loopw [6] (fun i wr => ∃ k : Nat, k ≤ s.size ∧ i = .int .i64 k ∧ Hid (wr.ownsRow base 5 1 (.slice (some ⟨g, 0, none⟩) n cap) n (bvs (put cur o (s.data.toList.take k)))) ∧ Fr (fun k => k = g) w wr) (fun i _ => s.size - (intOf i).toNat)
  case atStart => exact ⟨0, Nat.zero_le _, rfl, by rw [List.take_zero, put_nil]; exact HG, Fr.refl _ _⟩
  case round =>
    obtain ⟨k, hk, rfl, hD, hfr⟩ := hrel
    by_cases hlt : k < s.size
    · have hpl : (put cur o (s.data.toList.take k)).length = n := by rw [put_length _ _ _ (by rw [List.length_take]; omega)]; exact hl
      obtain ⟨old, hcell⟩ : ∃ v, wr.cell? ⟨g, o + k, none⟩ = some v := ⟨_, by rw [hD.out.cellAt (o + k) (by omega)]; exact bvs_get _ _ (by omega)⟩
      have hfz : wr.frozen? ⟨g, o + k, none⟩ = false := hD.out.frozenAt _
      have hget : s.data.toList[k]'(by omega) = s[k]'hlt := by simp; rfl
      have hsn := put_snoc cur o s.data.toList k (by omega) (by omega)
      rw [hget] at hsn
      have HSN := hid hsn
      clear hsn hget hpl
      go_wp2
      go_roundw
      case rel =>
        refine ⟨k + 1, by omega, by go_num, hid ?_, hfr.set1 rfl _ _⟩
        rw [← HSN.out]
        have := hD.out.stored (o + k) (.int .u8 (s[k]'hlt).toNat)
        rw [bvs, List.map_set]
        exact this.1
      case measure => simp [intOf]; omega
    · go_wp2
      go_end0
      obtain rfl : k = s.size := by omega
      refine ⟨rfl, ?_, hfr⟩
      have := hD.out
      rwa [← hsz, List.take_length] at this

theorem take_contains (ks : List Int) (x : Int) (k : Nat) (hk : k < ks.length) : (ks.take (k + 1)).contains x = ((ks.take k).contains x || (ks[k] == x)) := by
  rw [List.take_add_one, List.getElem?_eq_getElem hk]
  show (ks.take k ++ [ks[k]]).contains x = _
  rw [List.contains_append]
  congr 1
  show (x == ks[k] || false) = _
  rw [Bool.or_false, Bool.eq_iff_iff, beq_iff_eq, beq_iff_eq]
  exact eq_comm
set_option maxRecDepth 100000 in
set_option maxHeartbeats 1600000 in
theorem has_any (w : World) (kp : Value) (ks : List Int) (hk : Keeps w kp ks) (hl : ks.length ≤ 1000000) (x : Int) :
    Calls Try.prog 43 #[kp, .int .i64 x] w fun e w' => e = .returned (.bool (ks.contains x)) ∧ w = w' := by
  obtain ⟨ad, cap, rfl, hc⟩ := hk
  have HC := hid hc
  clear hc
  have HT : Hid (ks.contains x = (ks.take ks.length).contains x) := hid (by rw [List.take_length])
  go_enter Try.func43, Try.ntmps43
  go_wp2
  go_loopw [5] (fun i wr => ∃ k : Nat, k ≤ ks.length ∧ i = .int .i64 k ∧ wr = w ∧ Hid ((ks.take k).contains x = false)) (fun i _ => ks.length - (intOf i).toNat)
  case atStart => exact ⟨0, by omega, rfl, rfl, hid (by simp)⟩
  case round =>
    obtain ⟨k, hk, rfl, rfl, hN⟩ := hrel
    by_cases hlt : k < ks.length
    · obtain ⟨b, off, had, hb, hcs⟩ := HC.out (by omega)
      subst had
      have c0 := hcs k hlt
      rw [show ks[k]?.getD 0 = ks[k] by simp [hlt]] at c0
      have HTC := hid (take_contains ks x k hlt)
      clear hcs
      generalize hy : ks[k] = y at c0 HTC
      have HY := hid hy
      clear hy
      cases hxy : (y == x) with
      | true =>
        have HR : Hid (ks.contains x = true) := hid (by
          have h1 := HY.out
          have h2 : y = x := by simpa using hxy
          simp only [List.contains_eq_mem, decide_eq_true_eq]
          rw [← h2, ← h1]
          exact List.getElem_mem hlt)
        go_wp2
        go_ret
        exact ⟨by rw [HR.out]; rfl, rfl⟩
      | false =>
        go_wp2
        go_roundw
        case rel => exact ⟨k + 1, by omega, by go_num, trivial, hid (by rw [HTC.out, hN.out, hxy]; rfl)⟩
        case measure => simp [intOf]; omega
    · obtain rfl : k = ks.length := by omega
      clear hlt
      go_wp2
      go_ret
      exact ⟨by rw [HT.out, hN.out]; rfl, rfl⟩
end Go.Proofs.Ytlnngeafhinpkaa
