/- The examples with which each statement begins answer true. No condition. -/
import Derived.Test.YtlnngeafhinpkaaDb
import Derived.Test.YtlnngeafhinpkaaDc
set_option linter.unusedVariables false
set_option linter.unusedSimpArgs false
namespace Go.Proofs.Ytlnngeafhinpkaa
open Go.RowKit

/-! ### A disk all of whose blocks lie from base on -/
def Live (base : Nat) (w : World) (B bd bv n : Nat) (s : St) : Prop := ∃ pv, IsDisk w B bd bv pv n s ∧ ∀ k, Foot B bd bv pv k → base ≤ k
def LiveR (base : Nat) (w : World) (B bd bv n : Nat) (r : Value) (s : St) (e : Ending) (w' : World) : Prop := e = .returned r ∧ Live base w' B bd bv n s ∧ Fr (fun k => base ≤ k) w w'
section
variable {base : Nat} {w : World} {B bd bv n : Nat} {s : St}
theorem Live.of_did {pv r : Value} {s' : St} (hf : ∀ k, Foot B bd bv pv k → base ≤ k) (hb : base ≤ w.heap.size) {e : Ending} {w' : World} (h : Did w B bd bv pv n r s' e w') : LiveR base w B bd bv n r s' e w' := by
  obtain ⟨h1, ⟨pv', h2, h3⟩, h4⟩ := h
  refine ⟨h1, ⟨pv', h2, ?_⟩, h4.mono (fun k _ hk => hf k hk)⟩
  rintro k (e | e | e | e)
  · exact hf k (.inl e)
  · exact hf k (.inr (.inl e))
  · exact hf k (.inr (.inr (.inl e)))
  · rcases h3 with h3 | ⟨j, h3, h5⟩
    · exact hf k (.inr (.inr (.inr (by rw [← h3]; exact e))))
    · rw [h3] at e
      injection e with e
      omega
theorem live_write (h : Live base w B bd bv n s) (hb : base ≤ w.heap.size) (off : Int) (str : ByteArray) (ho1 : -9223372036854775808 ≤ off) (ho2 : off ≤ 9223372036854775807)
    (hl : 0 ≤ s.left ∧ s.left ≤ 9223372036854775807) (hp : s.pend.length ≤ 1000000) (hsz : str.size ≤ 9223372036854775807) :
    Calls Try.prog 21 #[.pointer (some ⟨B, 0, none⟩), .int .i64 off, .string str] w (LiveR base w B bd bv n (.int .i64 (writeS s n off str).1) (writeS s n off str).2) := by
  obtain ⟨pv, h1, h2⟩ := h
  exact (write_any h1 off str ho1 ho2 hl hp hsz).mono fun _ _ => Live.of_did h2 hb
theorem live_sync (h : Live base w B bd bv n s) (hb : base ≤ w.heap.size) :
    Calls Try.prog 23 #[.pointer (some ⟨B, 0, none⟩)] w (LiveR base w B bd bv n (.int .i64 (syncS s).1) (syncS s).2) := by
  obtain ⟨pv, h1, h2⟩ := h
  exact (sync_any h1).mono fun _ _ => Live.of_did h2 hb
theorem live_cut (h : Live base w B bd bv n s) (hb : base ≤ w.heap.size) (k : Int) :
    Calls Try.prog 24 #[.pointer (some ⟨B, 0, none⟩), .int .i64 k] w (LiveR base w B bd bv n (.int .i64 (cutS s k).1) (cutS s k).2) := by
  obtain ⟨pv, h1, h2⟩ := h
  exact (cut_any h1 k).mono fun _ _ => Live.of_did h2 hb
theorem live_crash (h : Live base w B bd bv n s) (hb : base ≤ w.heap.size) (hf : Fits n s.pend) (hpl : s.pend.length ≤ 1000000) (kp : Value) (keep : List Int) (hk : Keeps w kp keep) (hkl : keep.length ≤ 1000000) (torn : Int) (ht1 : -9223372036854775808 ≤ torn) (ht2 : torn ≤ 9223372036854775807) :
    Calls Try.prog 25 #[.pointer (some ⟨B, 0, none⟩), kp, .int .i64 torn] w (LiveR base w B bd bv n (.int .i64 0) (crashS s keep torn)) := by
  obtain ⟨pv, h1, h2⟩ := h
  exact (crash_any h1 hf hpl kp keep hk hkl torn ht1 ht2).mono fun _ _ => Live.of_did h2 hb
theorem live_read (h : Live base w B bd bv n s) (off k : Int) (ho1 : -9223372036854775808 ≤ off) (ho2 : off ≤ 9223372036854775807) :
    Calls Try.prog 14 #[.pointer (some ⟨B, 0, none⟩), .int .i64 off, .int .i64 k] w fun e w' => e = .returned (.tuple #[.string (readS s n off k).1, .int .i64 (readS s n off k).2]) ∧ w = w' := by
  obtain ⟨pv, h1, h2⟩ := h
  exact read_any h1 off k ho1 ho2
theorem live_size (h : Live base w B bd bv n s) : Calls Try.prog 16 #[.pointer (some ⟨B, 0, none⟩)] w fun e w' => e = .returned (.int .i64 n) ∧ w = w' := by
  obtain ⟨pv, h1, h2⟩ := h
  exact size_any B w _ n n h1.c2
theorem live_pending (h : Live base w B bd bv n s) : Calls Try.prog 17 #[.pointer (some ⟨B, 0, none⟩)] w fun e w' => e = .returned (.int .i64 s.pend.length) ∧ w = w' := by
  obtain ⟨pv, h1, h2⟩ := h
  obtain ⟨a, c, rfl, _⟩ := h1.shape
  exact pending_any B w _ _ _ h1.c4
theorem Live.frame {w' : World} {S : Nat → Prop} (h : Live base w B bd bv n s) (hf : Fr S w w') (hS : ∀ k, base ≤ k → k < w.heap.size → ¬ S k) : Live base w' B bd bv n s := by
  obtain ⟨pv, h1, h2⟩ := h
  exact ⟨pv, h1.keep (fun k hk => hf.block k (h1.lt k hk) (hS k (h2 k hk) (h1.lt k hk))), h2⟩
theorem Live.alloc (h : Live base w B bd bv n s) (o : Obj) : Live base (w.alloc o) B bd bv n s := h.frame (S := fun _ => False) ((Fr.refl _ _).alloc o) (fun _ _ _ h => h)
end
def NewL (n : Nat) (base : Nat) (w : World) (e : Ending) (w' : World) : Prop :=
  ∃ B bd bv, e = .returned (.tuple #[.pointer (some ⟨B, 0, none⟩), .int .i64 0]) ∧ Live base w' B bd bv n (fresh n) ∧ Fr (fun k => base ≤ k) w w' ∧ w.heap.size ≤ B
theorem live_new (n : Nat) (h1 : 1 ≤ n) (h2 : n ≤ 4194304) (w : World) (base : Nat) (hb : base ≤ w.heap.size) : Calls Try.prog 13 #[.int .i64 n] w (NewL n base w) := by
  refine (new_ok n h1 h2 w).mono ?_
  rintro e w' ⟨B, bd, bv, rfl, h1, f1, b1, b2, b3⟩
  refine ⟨B, bd, bv, rfl, ⟨_, h1, ?_⟩, f1.mono (fun _ _ h => h.elim), b1⟩
  rintro k (rfl | rfl | rfl | e)
  · omega
  · omega
  · omega
  · simp [Value.ownBlock] at e

/-! ### The examples -/
def s1 : St := wrote (fresh 4) 0 ⟨#[97, 98]⟩
def s2 : St := wrote s1 1 ⟨#[120, 121]⟩
def s3 : St := { off := false, left := 0, dur := [97, 120, 0, 0], vis := [97, 120, 0, 0], pend := [] }
def s4 : St := { off := false, left := 1, dur := [97, 120, 0, 0], vis := [97, 120, 0, 0], pend := [] }
def s5 : St := wrote s4 3 ⟨#[113]⟩
theorem ord_s2 : ordS 2 [1, 0] = [0, 1] := by rw [ord_eq]; decide
theorem s3_eq : crashS s2 [1, 0] 1 = s3 := by
  have h : s2.pend.length = 2 := by decide
  have e : apTo s2.pend 1 [0, 1] s2.dur 2 = [97, 120, 0, 0] := by decide
  unfold crashS
  rw [h, ord_s2]
  show St.mk false 0 (apTo s2.pend 1 [0, 1] s2.dur 2) (apTo s2.pend 1 [0, 1] s2.dur 2) [] = s3
  rw [e]
  rfl
theorem w1_eq : writeS (fresh 4) 4 0 ⟨#[97, 98]⟩ = (0, s1) := rfl
theorem w2_eq : writeS s1 4 1 ⟨#[120, 121]⟩ = (0, s2) := rfl
theorem w3_eq : writeS s2 4 3 ⟨#[122, 122]⟩ = (90, s2) := rfl
theorem r2_eq : readS s2 4 0 4 = (⟨#[97, 120, 121, 0]⟩, 0) := by decide
theorem r3_eq : readS s3 4 0 4 = (⟨#[97, 120, 0, 0]⟩, 0) := by decide
theorem c4_eq : cutS s3 1 = (0, s4) := rfl
theorem w5_eq : writeS s4 4 3 ⟨#[113]⟩ = (0, s5) := rfl
theorem y5_eq : syncS s5 = (91, s5) := rfl

def True1 (w : World) (e : Ending) (w' : World) : Prop := e = .returned (.bool true) ∧ Below w.heap.size w w'

set_option maxRecDepth 100000 in
set_option maxHeartbeats 6400000 in
theorem sane_any (w : World) : Calls Try.prog 12 #[] w (True1 w) := by
  go_enter Try.func12, Try.ntmps12
  go_wp2_with fail
  refine (live_new 4 (by omega) (by omega) w w.heap.size (Nat.le_refl _)).mono ?_
  rintro e w1 ⟨B, bd, bv, rfl, h1, f1, b1⟩
  have H1 := hid h1
  clear h1
  go_wp2_with fail
  refine (new_bad 0 (by omega) w1).mono ?_
  rintro e w2 ⟨rfl, rfl⟩
  go_wp2_with fail
  refine (live_write H1.out f1.size 0 ⟨#[97, 98]⟩ (by omega) (by omega) (by simp [fresh]) (by simp [fresh]) (by decide)).mono ?_
  rw [w1_eq]
  rintro e w2 ⟨rfl, h2, f2⟩
  have F2 := f1.trans f2
  have H2 := hid h2
  clear h2 f2 f1 H1
  go_wp2_with fail
  refine (live_write H2.out F2.size 1 ⟨#[120, 121]⟩ (by omega) (by omega) (by decide) (by decide) (by decide)).mono ?_
  rw [w2_eq]
  rintro e w3 ⟨rfl, h3, f3⟩
  have F3 := F2.trans f3
  have H3 := hid h3
  clear h3 f3 F2 H2
  go_wp2_with fail
  refine (live_write H3.out F3.size 3 ⟨#[122, 122]⟩ (by omega) (by omega) (by decide) (by decide) (by decide)).mono ?_
  rw [w3_eq]
  rintro e w4 ⟨rfl, h4, f4⟩
  have F4 := F3.trans f4
  have H4 := hid h4
  clear h4 f4 F3 H3
  go_wp2_with fail
  refine (live_read H4.out 0 4 (by omega) (by omega)).mono ?_
  rw [r2_eq]
  rintro e w5 ⟨rfl, rfl⟩
  go_wp2_with fail
  refine (live_pending H4.out).mono ?_
  rw [show s2.pend.length = 2 by decide]
  rintro e w5 ⟨rfl, rfl⟩
  go_wp2_with fail
  refine (live_crash (H4.out.alloc _) (by have := F4.size; simp; omega) (by unfold Fits; decide) (by decide) _ [1, 0] ⟨_, _, rfl, fun _ => ⟨w4.heap.size, 0, rfl, by simp, ?_⟩⟩ (by decide) 1 (by omega) (by omega)).mono ?_
  · intro j hj
    have := heap_alloc_new w4 (.cells #[.int .i64 1, .int .i64 0] 3)
    rw [cell_of_row _ _ _ _ _ _ this]
    match j, hj with
    | 0, _ => rfl
    | 1, _ => rfl
  rw [s3_eq]
  rintro e w6 ⟨rfl, h6, f6⟩
  have F6 := (F4.alloc _).trans f6
  have H6 := hid h6
  clear h6 f6 F4 H4
  go_wp2_with fail
  refine (live_read H6.out 0 4 (by omega) (by omega)).mono ?_
  rw [r3_eq]
  rintro e w7 ⟨rfl, rfl⟩
  go_wp2_with fail
  refine (live_cut H6.out F6.size 1).mono ?_
  rw [c4_eq]
  rintro e w7 ⟨rfl, h7, f7⟩
  have F7 := F6.trans f7
  have H7 := hid h7
  clear h7 f7 F6 H6
  go_wp2_with fail
  refine (live_write H7.out F7.size 3 ⟨#[113]⟩ (by omega) (by omega) (by decide) (by decide) (by decide)).mono ?_
  rw [w5_eq]
  rintro e w8 ⟨rfl, h8, f8⟩
  have F8 := F7.trans f8
  have H8 := hid h8
  clear h8 f8 F7 H7
  go_wp2_with fail
  refine (live_sync H8.out F8.size).mono ?_
  rw [y5_eq]
  rintro e w9 ⟨rfl, h9, f9⟩
  have F9 := F8.trans f9
  have H9 := hid h9
  clear h9 f9 F8 H8
  go_wp2_with fail
  refine (live_size H9.out).mono ?_
  rintro e w10 ⟨rfl, rfl⟩
  go_wp2
  go_ret
  exact ⟨rfl, F9.below (Nat.le_refl _) (fun _ h => h)⟩
end Go.Proofs.Ytlnngeafhinpkaa
