/- DiskNil answers true. No condition. -/
import Derived.Test.YtlnngeafhinpkaaDg
set_option linter.unusedVariables false
set_option linter.unusedSimpArgs false
namespace Go.Proofs.Ytlnngeafhinpkaa
open Go.RowKit

set_option maxRecDepth 100000 in
set_option maxHeartbeats 3200000 in
theorem nil_any (at_ n : Int) (s : ByteArray) (a : Option Addr) (len cap : Nat) (w : World) (h1 : -9223372036854775808 ≤ at_) (h2 : at_ ≤ 9223372036854775807) (h3 : -9223372036854775808 ≤ n) (h4 : n ≤ 9223372036854775807)
    (hs : s.size ≤ 9223372036854775807) (hl : len ≤ cap) (hc : cap ≤ 9223372036854775807) (ha : a = none → len = 0 ∧ cap = 0) :
    Calls Try.prog 5 #[.int .i64 at_, .int .i64 n, .string s, .slice a len cap] w (True1 w) := by
  have HS := hid hs
  clear hs
  cases a with
  | none =>
    obtain ⟨rfl, rfl⟩ := ha rfl
    go_enter Try.func5, Try.ntmps5
    go_wp2_with (first | (go_at_call 12; refine (sane_any _).mono ?_; rintro e w1 ⟨rfl, b1⟩) | (go_at_call 14; refine (read_nil _ _ _).mono ?_; rintro e w2 ⟨rfl, rfl⟩) | (go_at_call 21; refine (write_nil _ _ _).mono ?_; rintro e w2 ⟨rfl, rfl⟩) | (go_at_call 22; refine (cut_any2 _ _ _ HS.out (by omega)).mono ?_; rintro e w2 ⟨rfl, rfl⟩) | (go_at_call 23; refine (sync_nil _).mono ?_; rintro e w2 ⟨rfl, rfl⟩) | (go_at_call 24; refine (cut_nil _ _).mono ?_; rintro e w2 ⟨rfl, rfl⟩) | (go_at_call 25; refine (crash_nil _ _ _).mono ?_; rintro e w2 ⟨rfl, f2⟩) | (go_at_call 17; refine (pending_nil _).mono ?_; rintro e w3 ⟨rfl, rfl⟩) | (go_at_call 16; refine (size_nil _).mono ?_; rintro e w3 ⟨rfl, rfl⟩))
    go_ret
    exact ⟨rfl, b1.trans ((f2.below (Nat.le_refl _) (fun _ h => h.elim)).mono b1.size)⟩
  | some ad =>
    clear ha
    go_enter Try.func5, Try.ntmps5
    go_wp2_with (first | (go_at_call 12; refine (sane_any _).mono ?_; rintro e w1 ⟨rfl, b1⟩) | (go_at_call 14; refine (read_nil _ _ _).mono ?_; rintro e w2 ⟨rfl, rfl⟩) | (go_at_call 21; refine (write_nil _ _ _).mono ?_; rintro e w2 ⟨rfl, rfl⟩) | (go_at_call 22; refine (cut_any2 _ _ _ HS.out (by omega)).mono ?_; rintro e w2 ⟨rfl, rfl⟩) | (go_at_call 23; refine (sync_nil _).mono ?_; rintro e w2 ⟨rfl, rfl⟩) | (go_at_call 24; refine (cut_nil _ _).mono ?_; rintro e w2 ⟨rfl, rfl⟩) | (go_at_call 25; refine (crash_nil _ _ _).mono ?_; rintro e w2 ⟨rfl, f2⟩) | (go_at_call 17; refine (pending_nil _).mono ?_; rintro e w3 ⟨rfl, rfl⟩) | (go_at_call 16; refine (size_nil _).mono ?_; rintro e w3 ⟨rfl, rfl⟩))
    go_ret
    exact ⟨rfl, b1.trans ((f2.below (Nat.le_refl _) (fun _ h => h.elim)).mono b1.size)⟩
end Go.Proofs.Ytlnngeafhinpkaa
