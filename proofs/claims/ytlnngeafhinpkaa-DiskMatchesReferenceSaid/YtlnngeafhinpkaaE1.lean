/- fits and put of the statements; a disk beside blocks that its calls leave alone. No condition. -/
import Derived.Test.YtlnngeafhinpkaaDg
set_option linter.unusedVariables false
set_option linter.unusedSimpArgs false
namespace Go.Proofs.Ytlnngeafhinpkaa
open Go.RowKit
def WP.val (x : WP) : Value := .agg #[.int .i64 x.off, .string x.s, .bool x.sync]
def WP.cells (x : WP) : Array Value := #[.int .i64 x.off, .string x.s, .bool x.sync]
def fitsF (x : WP) (n : Int) : WP := ⟨pickF x.off (n + 1), cutF x.s (n - pickF x.off (n + 1)), x.sync⟩
theorem fits_in (x : WP) (n : Int) (hn : 0 ≤ n) : 0 ≤ (fitsF x n).off ∧ (fitsF x n).off + (fitsF x n).s.size ≤ n := by
  have h1 := pickF_in x.off (n + 1) (by omega)
  have h2 := cutF_size x.s (n - pickF x.off (n + 1))
  unfold fitsF
  dsimp only
  omega
set_option maxRecDepth 100000 in
set_option maxHeartbeats 1600000 in
theorem fits_any (x : WP) (n : Int) (w : World) (h1 : -9223372036854775808 ≤ x.off) (h2 : x.off ≤ 9223372036854775807) (hs : x.s.size ≤ 9223372036854775807) (hn : 0 ≤ n) (hn2 : n ≤ 1000000) :
    Calls Try.prog 26 #[x.val, .int .i64 n] w fun e w' => e = .returned ((fitsF x n).val) ∧ w' = (w.alloc (.cells (fitsF x n).cells 53)).alloc (.cells (fitsF x n).cells 53) := by
  obtain ⟨o, s, y⟩ := x
  unfold fitsF WP.val WP.cells
  dsimp only at h1 h2 hs ⊢
  have HS := hid hs
  have hp := pickF_in o (n + 1) (by omega)
  have HK := hid (pick_any o (n + 1) · h1 h2 (by omega) (by omega))
  generalize pickF o (n + 1) = p at hp HK ⊢
  go_enter Try.func26, Try.ntmps26
  go_wp2_with (first | (go_at_call 15; refine (HK.out _).mono ?_; rintro e w1 ⟨rfl, rfl⟩) | (go_at_call 22; refine (cut_any2 _ _ _ HS.out (by omega)).mono ?_; rintro e w2 ⟨rfl, rfl⟩))
  refine bodyPost_ret (v := .agg #[.int .i64 p, .string (cutF s (n - p)), .bool y]) ?_ rfl ⟨rfl, rfl⟩
  simp [results, show Try.f26.results = #[.cell 4 53] from rfl, loadVar, go_sem, Try.isAgg53, Try.sizeOf53, asAddr, Result.andThen]

theorem put_snoc (b : Bs) (o : Nat) (s : Bs) (j : Nat) (hj : j < s.length) (hf : o + s.length ≤ b.length) : (put b o (s.take j)).set (o + j) s[j] = put b o (s.take (j + 1)) := by
  apply List.ext_getElem
  · rw [List.length_set, put_length _ _ _ (by simp; omega), put_length _ _ _ (by simp; omega)]
  intro i h1 h2
  have e1 : (s.take j).length = j := by simp; omega
  have e2 : (s.take (j + 1)).length = j + 1 := by simp; omega
  simp only [put, List.getElem_set, List.getElem_append, List.getElem_take, List.getElem_drop, List.length_take]
  have m1 : min o b.length = o := by omega
  have m2 : min j s.length = j := by omega
  have m3 : min (j + 1) s.length = j + 1 := by omega
  simp only [m1, m2, m3]
  split
  · rename_i h
    subst h
    rw [dif_neg (by omega), dif_pos (by omega)]
    congr 1
    omega
  · rename_i h
    by_cases c1 : i < o
    · rw [dif_pos c1, dif_pos c1]
    · rw [dif_neg c1, dif_neg c1]
      by_cases c2 : i - o < j
      · rw [dif_pos c2, dif_pos (by omega)]
      · rw [dif_neg c2, dif_neg (by omega)]
        congr 1
        omega
set_option maxRecDepth 100000 in
set_option maxHeartbeats 1600000 in
theorem put_any (w : World) (g n o : Nat) (cur : Bs) (s : ByteArray) (hg : w.heap[g]? = some (.cells (bvs cur).toArray 5 (0, 0))) (hl : cur.length = n) (hn : n ≤ 4194304) (hf : o + s.size ≤ n) :
    Calls Try.prog 27 #[.slice (some ⟨g, 0, none⟩) n n, .int .i64 o, .string s] w fun e w' => e = .returned (.tuple #[]) ∧ w'.heap[g]? = some (.cells (bvs (put cur o s.data.toList)).toArray 5 (0, 0)) ∧ Fr (fun k => k = g) w w' := by
  have hsz : s.data.toList.length = s.size := by rw [Array.length_toList]; rfl
  have HG := hid hg
  clear hg
  go_enter Try.func27, Try.ntmps27
  go_wp2
  go_loopw [6] (fun i wr => ∃ k : Nat, k ≤ s.size ∧ i = .int .i64 k ∧ Hid (wr.heap[g]? = some (.cells (bvs (put cur o (s.data.toList.take k))).toArray 5 (0, 0))) ∧ Fr (fun k => k = g) w wr) (fun i _ => s.size - (intOf i).toNat)
  case atStart => exact ⟨0, Nat.zero_le _, rfl, by rw [List.take_zero, put_nil]; exact HG, Fr.refl _ _⟩
  case round =>
    obtain ⟨k, hk, rfl, hD, hfr⟩ := hrel
    by_cases hlt : k < s.size
    · have hpl : (put cur o (s.data.toList.take k)).length = n := by rw [put_length _ _ _ (by rw [List.length_take]; omega)]; exact hl
      obtain ⟨old, hcell⟩ : ∃ v, wr.cell? ⟨g, o + k, none⟩ = some v := ⟨_, by rw [row_cell hD.out]; exact bvs_get _ _ (by omega)⟩
      have hfz : wr.frozen? ⟨g, o + k, none⟩ = false := row_free hD.out _
      have hget : s.data.toList[k]'(by omega) = s[k]'hlt := by simp; rfl
      have hsn := put_snoc cur o s.data.toList k (by omega) (by omega)
      rw [hget] at hsn
      have HSN := hid hsn
      clear hsn hget hpl
      go_wp2
      go_roundw
      case rel =>
        refine ⟨k + 1, by omega, by go_num, hid ?_, hfr.set1 rfl _ _⟩
        rw [← HSN.out]
        have := heap_setCell_same wr g (o + k) _ 5 (.int .u8 (s[k]'hlt).toNat) hD.out
        rw [this]
        simp [bvs]
      case measure => simp [intOf]; omega
    · go_wp2
      go_end0
      obtain rfl : k = s.size := by omega
      refine ⟨rfl, ?_, hfr⟩
      have := hD.out
      rwa [← hsz, List.take_length] at this

/-! ### A disk none of whose blocks lies in K -/
def Held (K : Nat → Prop) (w : World) (B bd bv n : Nat) (s : St) : Prop := ∃ pv, IsDisk w B bd bv pv n s ∧ ∀ k, Foot B bd bv pv k → ¬ K k
def HeldR (K : Nat → Prop) (w : World) (B bd bv n : Nat) (r : Value) (s : St) (e : Ending) (w' : World) : Prop := e = .returned r ∧ Held K w' B bd bv n s ∧ Fr (fun k => ¬ K k) w w'
section
variable {K : Nat → Prop} {w : World} {B bd bv n : Nat} {s : St}
theorem Held.of_did {pv r : Value} {s' : St} (hf : ∀ k, Foot B bd bv pv k → ¬ K k) (hb : ∀ k, K k → k < w.heap.size) {e : Ending} {w' : World} (h : Did w B bd bv pv n r s' e w') : HeldR K w B bd bv n r s' e w' := by
  obtain ⟨h1, ⟨pv', h2, h3⟩, h4⟩ := h
  refine ⟨h1, ⟨pv', h2, ?_⟩, h4.mono (fun k _ hk => hf k hk)⟩
  rintro k (e | e | e | e)
  · exact hf k (.inl e)
  · exact hf k (.inr (.inl e))
  · exact hf k (.inr (.inr (.inl e)))
  · rcases h3 with h3 | ⟨j, h3, h5⟩
    · exact hf k (.inr (.inr (.inr (by rw [← h3]; exact e))))
    · rw [h3] at e
      injection e with e
      intro hk
      have := hb k hk
      omega
theorem held_write (h : Held K w B bd bv n s) (hb : ∀ k, K k → k < w.heap.size) (off : Int) (str : ByteArray) (ho1 : -9223372036854775808 ≤ off) (ho2 : off ≤ 9223372036854775807)
    (hl : 0 ≤ s.left ∧ s.left ≤ 9223372036854775807) (hp : s.pend.length ≤ 1000000) (hsz : str.size ≤ 9223372036854775807) :
    Calls Try.prog 21 #[.pointer (some ⟨B, 0, none⟩), .int .i64 off, .string str] w (HeldR K w B bd bv n (.int .i64 (writeS s n off str).1) (writeS s n off str).2) := by
  obtain ⟨pv, h1, h2⟩ := h
  exact (write_any h1 off str ho1 ho2 hl hp hsz).mono fun _ _ => Held.of_did h2 hb
theorem held_sync (h : Held K w B bd bv n s) (hb : ∀ k, K k → k < w.heap.size) :
    Calls Try.prog 23 #[.pointer (some ⟨B, 0, none⟩)] w (HeldR K w B bd bv n (.int .i64 (syncS s).1) (syncS s).2) := by
  obtain ⟨pv, h1, h2⟩ := h
  exact (sync_any h1).mono fun _ _ => Held.of_did h2 hb
theorem held_cut (h : Held K w B bd bv n s) (hb : ∀ k, K k → k < w.heap.size) (k : Int) :
    Calls Try.prog 24 #[.pointer (some ⟨B, 0, none⟩), .int .i64 k] w (HeldR K w B bd bv n (.int .i64 (cutS s k).1) (cutS s k).2) := by
  obtain ⟨pv, h1, h2⟩ := h
  exact (cut_any h1 k).mono fun _ _ => Held.of_did h2 hb
theorem held_crash (h : Held K w B bd bv n s) (hb : ∀ k, K k → k < w.heap.size) (hf : Fits n s.pend) (hpl : s.pend.length ≤ 1000000) (kp : Value) (keep : List Int) (hk : Keeps w kp keep) (hkl : keep.length ≤ 1000000) (torn : Int) (ht1 : -9223372036854775808 ≤ torn) (ht2 : torn ≤ 9223372036854775807) :
    Calls Try.prog 25 #[.pointer (some ⟨B, 0, none⟩), kp, .int .i64 torn] w (HeldR K w B bd bv n (.int .i64 0) (crashS s keep torn)) := by
  obtain ⟨pv, h1, h2⟩ := h
  exact (crash_any h1 hf hpl kp keep hk hkl torn ht1 ht2).mono fun _ _ => Held.of_did h2 hb
theorem held_read (h : Held K w B bd bv n s) (off k : Int) (ho1 : -9223372036854775808 ≤ off) (ho2 : off ≤ 9223372036854775807) :
    Calls Try.prog 14 #[.pointer (some ⟨B, 0, none⟩), .int .i64 off, .int .i64 k] w fun e w' => e = .returned (.tuple #[.string (readS s n off k).1, .int .i64 (readS s n off k).2]) ∧ w = w' := by
  obtain ⟨pv, h1, h2⟩ := h
  exact read_any h1 off k ho1 ho2
theorem held_size (h : Held K w B bd bv n s) : Calls Try.prog 16 #[.pointer (some ⟨B, 0, none⟩)] w fun e w' => e = .returned (.int .i64 n) ∧ w = w' := by
  obtain ⟨pv, h1, h2⟩ := h
  exact size_any B w _ n n h1.c2
theorem held_pending (h : Held K w B bd bv n s) : Calls Try.prog 17 #[.pointer (some ⟨B, 0, none⟩)] w fun e w' => e = .returned (.int .i64 s.pend.length) ∧ w = w' := by
  obtain ⟨pv, h1, h2⟩ := h
  obtain ⟨a, c, rfl, _⟩ := h1.shape
  exact pending_any B w _ _ _ h1.c4
theorem Held.frame {w' : World} {S : Nat → Prop} (h : Held K w B bd bv n s) (hf : Fr S w w') (hS : ∀ k, S k → K k) : Held K w' B bd bv n s := by
  obtain ⟨pv, h1, h2⟩ := h
  exact ⟨pv, h1.keep (fun k hk => hf.block k (h1.lt k hk) (fun hs => h2 k hk (hS k hs))), h2⟩
theorem Held.alloc (h : Held K w B bd bv n s) (o : Obj) : Held K (w.alloc o) B bd bv n s := h.frame (S := fun _ => False) ((Fr.refl _ _).alloc o) (fun _ h => h.elim)
theorem Held.mono {K' : Nat → Prop} (h : Held K w B bd bv n s) (hK : ∀ k, k < w.heap.size → K' k → K k) : Held K' w B bd bv n s := by
  obtain ⟨pv, h1, h2⟩ := h
  exact ⟨pv, h1, fun k hk h => h2 k hk (hK k (h1.lt k hk) h)⟩
theorem Live.held {base : Nat} (h : Live base w B bd bv n s) : Held (fun k => k < base) w B bd bv n s := by
  obtain ⟨pv, h1, h2⟩ := h
  exact ⟨pv, h1, fun k hk h => by have := h2 k hk; omega⟩
end
end Go.Proofs.Ytlnngeafhinpkaa
