/- The small functions of the statements: pick and cut; DiskNewMatches answers true. No condition. -/
import Derived.Test.YtlnngeafhinpkaaDd
set_option linter.unusedVariables false
set_option linter.unusedSimpArgs false
namespace Go.Proofs.Ytlnngeafhinpkaa
open Go.RowKit

def pickF (c n : Int) : Int := (if c < 0 then -(c + 1) else c) % n
theorem pickF_in (c n : Int) (h : 1 ≤ n) : 0 ≤ pickF c n ∧ pickF c n < n := ⟨Int.emod_nonneg _ (by omega), Int.emod_lt_of_pos _ (by omega)⟩

set_option maxHeartbeats 800000 in
theorem pick_any (c n : Int) (w : World) (h1 : -9223372036854775808 ≤ c) (h2 : c ≤ 9223372036854775807) (hn : 1 ≤ n) (hn2 : n ≤ 9223372036854775807) :
    Calls Try.prog 15 #[.int .i64 c, .int .i64 n] w fun e w' => e = .returned (.int .i64 (pickF c n)) ∧ w = w' := by
  by_cases hc : c < 0
  · have hb : 0 ≤ -(c + 1) := by omega
    go_enter Try.func15, Try.ntmps15
    go_wp2
    go_ret
    exact ⟨by unfold pickF; rw [if_pos hc]; simp; rw [← Int.neg_tmod, Int.tmod_eq_emod_of_nonneg hb], rfl⟩
  · go_enter Try.func15, Try.ntmps15
    go_wp2
    go_ret
    exact ⟨by unfold pickF; rw [if_neg (by omega)]; rfl, rfl⟩

def cutF (s : ByteArray) (n : Int) : ByteArray := s.extract 0 (min (s.size : Int) n).toNat
set_option maxHeartbeats 800000 in
theorem cut_any2 (s : ByteArray) (n : Int) (w : World) (hs : s.size ≤ 9223372036854775807) (hn : 0 ≤ n) :
    Calls Try.prog 22 #[.string s, .int .i64 n] w fun e w' => e = .returned (.string (cutF s n)) ∧ w = w' := by
  go_enter Try.func22, Try.ntmps22
  go_wp2
  go_ret
  exact ⟨rfl, rfl⟩
theorem cutF_size (s : ByteArray) (n : Int) : (cutF s n).size ≤ s.size ∧ ((cutF s n).size : Int) ≤ max n 0 := by
  unfold cutF
  rw [ByteArray.size_extract]
  omega
theorem zero1 (n : Nat) (at_ : Int) (h1 : 1 ≤ n) (h : 0 ≤ at_ ∧ at_ < n) : readS (fresh n) n at_ 1 = (⟨#[0]⟩, 0) := by
  unfold readS
  rw [if_neg (by simp [fresh]), if_pos (inside_true (by omega))]
  have : ((zeros n).drop at_.toNat).take (1 : Int).toNat = [0] := by
    unfold zeros
    rw [List.drop_replicate, List.take_replicate]
    have : min (1 : Int).toNat (n - at_.toNat) = 1 := by omega
    rw [this]
    rfl
  show ((⟨(((zeros n).drop at_.toNat).take (1 : Int).toNat).toArray⟩ : ByteArray), (0 : Int)) = _
  rw [this]

set_option maxRecDepth 100000 in
set_option maxHeartbeats 3200000 in
theorem newMatches_any (size at_ : Int) (w : World) (h1 : -9223372036854775808 ≤ size) (h2 : size ≤ 9223372036854775807) (h3 : -9223372036854775808 ≤ at_) (h4 : at_ ≤ 9223372036854775807) :
    Calls Try.prog 3 #[.int .i64 size, .int .i64 at_] w (True1 w) := by
  by_cases hs : size < 1 ∨ 4194304 < size
  · by_cases hs1 : size < 1
    · have HS := hid hs
      clear hs
      go_enter Try.func3, Try.ntmps3
      go_wp2_with (first | (go_at_call 12; refine (sane_any _).mono ?_; rintro e w1 ⟨rfl, b1⟩) | (go_at_call 13; refine (new_bad _ HS.out _).mono ?_; rintro e w2 ⟨rfl, rfl⟩))
      go_ret
      exact ⟨rfl, b1⟩
    · have hs2 : 4194304 < size := by omega
      have HS := hid hs
      clear hs
      go_enter Try.func3, Try.ntmps3
      go_wp2_with (first | (go_at_call 12; refine (sane_any _).mono ?_; rintro e w1 ⟨rfl, b1⟩) | (go_at_call 13; refine (new_bad _ HS.out _).mono ?_; rintro e w2 ⟨rfl, rfl⟩))
      go_ret
      exact ⟨rfl, b1⟩
  · have hn1 : 1 ≤ size := by omega
    have hn2 : size ≤ 4194304 := by omega
    obtain ⟨n, rfl⟩ := Int.eq_ofNat_of_zero_le (show 0 ≤ size by omega)
    have hp := pickF_in at_ n hn1
    have HZ := hid (zero1 n (pickF at_ n) (by omega) hp)
    have hp1 := hp.1
    have hp2 := hp.2
    clear hs hp
    go_enter Try.func3, Try.ntmps3
    go_wp2_with (first | (go_at_call 12; refine (sane_any _).mono ?_; rintro e w1 ⟨rfl, b1⟩) | (go_at_call 13; refine (live_new n (by omega) (by omega) w1 w1.heap.size (Nat.le_refl _)).mono ?_; rintro e w2 ⟨B, bd, bv, rfl, hL, f2, b2⟩; have HL := hid hL; clear hL) | (go_at_call 15; refine (pick_any _ _ _ h3 h4 hn1 h2).mono ?_; rintro e w3 ⟨rfl, rfl⟩) | (go_at_call 14; refine (live_read HL.out _ 1 (by omega) (by omega)).mono ?_; rw [HZ.out]; rintro e w3 ⟨rfl, rfl⟩) | (go_at_call 16; refine (live_size HL.out).mono ?_; rintro e w3 ⟨rfl, rfl⟩) | (go_at_call 17; refine (live_pending HL.out).mono ?_; rintro e w3 ⟨rfl, rfl⟩))
    go_ret
    exact ⟨by simp [fresh], b1.trans ((f2.below (Nat.le_refl _) (fun _ h => h)).mono b1.size)⟩
end Go.Proofs.Ytlnngeafhinpkaa
