/- The disk as it lies in memory; what check, inside, onto, used, settle, Size and Pending do. No condition beside the sizes. -/
import Derived.Test.YtlnngeafhinpkaaD0
import Derived.BigQuiet
import Derived.Deep.QuietTactic
import Derived.Deep.AppendLies
import Derived.Deep.RegionLaw
import Derived.StillTailTactics
import Derived.Laws.BytesArg

set_option linter.unusedVariables false
set_option linter.unusedSimpArgs false
namespace Go.Proofs.Ytlnngeafhinpkaa
open Go.RowKit

theorem still_tail {P : Program} {id : Nat} {Q : Exit → Act → World → Prop} {a : Act} {w : World} {l : List Oper} (n : Nat) (hm : P.follows .mixedOrders = true) (hB : Region.lexTailB .any l.toArray n = true)
    (h : wpStill P l.toArray w.drew (fun a' => wpList P l.toArray Q (l.drop n) a' w.drew) (l.take n) a) : (Code.region id l.toArray true).wp P Q a w :=
  wp_region_still_tail n hm hB h

structure St where
  off : Bool
  left : Int
  dur : Bs
  vis : Bs
  pend : List (Nat × ByteArray)

def pcells (p : List (Nat × ByteArray)) : List Value := p.flatMap fun x => [.int .i64 x.1, .string x.2]
theorem pcells_length (p : List (Nat × ByteArray)) : (pcells p).length = p.length * 2 := by
  induction p with
  | nil => rfl
  | cons x p ih => simp only [pcells, List.flatMap_cons, List.length_append, List.length_cons, List.length_nil] at ih ⊢; omega
theorem pcells_snoc (p : List (Nat × ByteArray)) (x : Nat × ByteArray) : pcells (p ++ [x]) = pcells p ++ [.int .i64 x.1, .string x.2] := by simp [pcells]
theorem pcells_get (p : List (Nat × ByteArray)) (i : Nat) (h : i < p.length) : (pcells p)[i * 2]? = some (.int .i64 (p[i]'h).1) ∧ (pcells p)[i * 2 + 1]? = some (.string (p[i]'h).2) := by
  induction p generalizing i with
  | nil => simp at h
  | cons x p ih =>
    cases i with
    | zero => simp [pcells]
    | succ i =>
      have := ih i (by simpa using h)
      simp only [pcells, List.flatMap_cons, List.getElem_cons_succ] at this ⊢
      rw [show (i + 1) * 2 = (i * 2) + 2 by omega, show (i * 2) + 2 + 1 = (i * 2 + 1) + 2 by omega]
      exact this

structure IsDisk (w : World) (B bd bv : Nat) (pv : Value) (n : Nat) (s : St) : Prop where
  hB : w.heap[B]? = some (.cells [.bool s.off, .int .i64 s.left, .slice (some ⟨bd, 0, none⟩) n n, .slice (some ⟨bv, 0, none⟩) n n, pv].toArray 65 (0, 0))
  hd : w.heap[bd]? = some (.cells (bvs s.dur).toArray 5 (0, 0))
  hv : w.heap[bv]? = some (.cells (bvs s.vis).toArray 5 (0, 0))
  hp : w.ownsRow 0 69 2 pv s.pend.length (pcells s.pend)
  ne : bd ≠ bv
  ld : s.dur.length = n
  lv : s.vis.length = n
  n1 : 1 ≤ n
  n2 : n ≤ 4194304

/-- The blocks of a disk. -/
def Foot (B bd bv : Nat) (pv : Value) (k : Nat) : Prop := k = B ∨ k = bd ∨ k = bv ∨ pv.ownBlock = some k

section
variable {w : World} {B bd bv n : Nat} {pv : Value} {s : St}
theorem IsDisk.c0 (h : IsDisk w B bd bv pv n s) : w.cell? ⟨B, 0, none⟩ = some (.bool s.off) := by rw [row_cell h.hB]; rfl
theorem IsDisk.c1 (h : IsDisk w B bd bv pv n s) : w.cell? ⟨B, 1, none⟩ = some (.int .i64 s.left) := by rw [row_cell h.hB]; rfl
theorem IsDisk.c2 (h : IsDisk w B bd bv pv n s) : w.cell? ⟨B, 2, none⟩ = some (.slice (some ⟨bd, 0, none⟩) n n) := by rw [row_cell h.hB]; rfl
theorem IsDisk.c3 (h : IsDisk w B bd bv pv n s) : w.cell? ⟨B, 3, none⟩ = some (.slice (some ⟨bv, 0, none⟩) n n) := by rw [row_cell h.hB]; rfl
theorem IsDisk.c4 (h : IsDisk w B bd bv pv n s) : w.cell? ⟨B, 4, none⟩ = some pv := by rw [row_cell h.hB]; rfl
theorem IsDisk.fr (h : IsDisk w B bd bv pv n s) (i : Nat) : w.frozen? ⟨B, i, none⟩ = false := row_free h.hB i
theorem IsDisk.lB (h : IsDisk w B bd bv pv n s) : B < w.heap.size := row_lt h.hB
theorem IsDisk.ld' (h : IsDisk w B bd bv pv n s) : bd < w.heap.size := row_lt h.hd
theorem IsDisk.lv' (h : IsDisk w B bd bv pv n s) : bv < w.heap.size := row_lt h.hv
theorem IsDisk.lp (h : IsDisk w B bd bv pv n s) : ∀ k, pv.ownBlock = some k → k < w.heap.size := fun k hk => (h.hp.lt k hk).2
theorem ne_types {w : World} {a b : Nat} {x y : Array Value} {s t : TypeId} (ha : w.heap[a]? = some (.cells x s (0, 0))) (hb : w.heap[b]? = some (.cells y t (0, 0))) (h : s ≠ t) : a ≠ b := by
  rintro rfl
  rw [ha] at hb
  injection hb with hb
  injection hb with _ hb
  exact h hb
theorem own_ne {w : World} {base : Nat} {e : TypeId} {size n : Nat} {v : Value} {xs : List Value} (h : w.ownsRow base e size v n xs) {b : Nat} {y : Array Value} {t : TypeId} (hb : w.heap[b]? = some (.cells y t (0, 0))) (hne : e ≠ t) : v.ownBlock ≠ some b := by
  rcases h.2 with ⟨rfl, _⟩ | ⟨g, cap, cur, rfl, _, hg, _⟩
  · simp [Value.ownBlock]
  · intro he
    have : g = b := by simpa [Value.ownBlock] using he
    exact ne_types hg hb hne this
theorem IsDisk.nBd (h : IsDisk w B bd bv pv n s) : B ≠ bd := ne_types h.hB h.hd (by decide)
theorem IsDisk.nBv (h : IsDisk w B bd bv pv n s) : B ≠ bv := ne_types h.hB h.hv (by decide)
theorem IsDisk.npB (h : IsDisk w B bd bv pv n s) : pv.ownBlock ≠ some B := own_ne h.hp h.hB (by decide)
theorem IsDisk.npd (h : IsDisk w B bd bv pv n s) : pv.ownBlock ≠ some bd := own_ne h.hp h.hd (by decide)
theorem IsDisk.npv (h : IsDisk w B bd bv pv n s) : pv.ownBlock ≠ some bv := own_ne h.hp h.hv (by decide)
theorem IsDisk.shape (h : IsDisk w B bd bv pv n s) : ∃ a c, pv = .slice a s.pend.length c ∧ s.pend.length ≤ c := by
  rcases h.hp.2 with ⟨rfl, h0⟩ | ⟨g, cap, cur, rfl, _, _, hc, _⟩
  · exact ⟨none, 0, by rw [h0], by omega⟩
  · exact ⟨_, cap, rfl, hc⟩
/-- Behind a step that leaves its blocks alone. -/
theorem IsDisk.keep {w' : World} (h : IsDisk w B bd bv pv n s) (hk : ∀ k, Foot B bd bv pv k → w'.heap[k]? = w.heap[k]?) : IsDisk w' B bd bv pv n s where
  hB := (hk B (.inl rfl)).trans h.hB
  hd := (hk bd (.inr (.inl rfl))).trans h.hd
  hv := (hk bv (.inr (.inr (.inl rfl)))).trans h.hv
  hp := by
    refine ⟨h.hp.1, ?_⟩
    rcases h.hp.2 with h2 | ⟨g, cap, cur, rfl, hg, hh, r⟩
    · exact .inl h2
    · exact .inr ⟨g, cap, cur, rfl, hg, (hk g (.inr (.inr (.inr rfl)))).trans hh, r⟩
  ne := h.ne
  ld := h.ld
  lv := h.lv
  n1 := h.n1
  n2 := h.n2
theorem IsDisk.lt (h : IsDisk w B bd bv pv n s) : ∀ k, Foot B bd bv pv k → k < w.heap.size := by
  rintro k (rfl | rfl | rfl | hk)
  · exact h.lB
  · exact h.ld'
  · exact h.lv'
  · exact h.lp k hk
theorem IsDisk.frame {w' : World} {S : Nat → Prop} (h : IsDisk w B bd bv pv n s) (hf : Fr S w w') (hS : ∀ k, Foot B bd bv pv k → ¬ S k) : IsDisk w' B bd bv pv n s :=
  h.keep fun k hk => hf.block k (h.lt k hk) (hS k hk)
theorem IsDisk.alloc (h : IsDisk w B bd bv pv n s) (o : Obj) : IsDisk (w.alloc o) B bd bv pv n s := h.frame (S := fun _ => False) ((Fr.refl _ _).alloc o) (fun _ _ h => h)
theorem IsDisk.drewN (h : IsDisk w B bd bv pv n s) (q : Nat) : IsDisk (w.drewN q) B bd bv pv n s := h.frame (S := fun _ => False) ((Fr.refl _ _).drewN q) (fun _ _ h => h)
end

/-! ### The plain functions -/
def Errno (k : Int) : Value := .int .i64 k
def insideB (off n size : Int) : Bool := decide (0 ≤ off ∧ 0 ≤ n ∧ off ≤ size ∧ n ≤ size - off)
def used (s : St) : St := if s.left = 0 then s else { s with left := s.left - 1, off := s.left - 1 == 0 }

set_option maxHeartbeats 400000 in
theorem check_off (B : Nat) (w : World) (hc : w.cell? ⟨B, 0, none⟩ = some (.bool true)) :
    Calls Try.prog 28 #[.pointer (some ⟨B, 0, none⟩)] w fun e w' => e = .returned (.int .i64 91) ∧ w = w' := by
  go_enter Try.func28, Try.ntmps28
  go_wp2
  go_ret
  exact ⟨rfl, rfl⟩

set_option maxHeartbeats 400000 in
theorem check_on (B : Nat) (w : World) (hc : w.cell? ⟨B, 0, none⟩ = some (.bool false)) :
    Calls Try.prog 28 #[.pointer (some ⟨B, 0, none⟩)] w fun e w' => e = .returned (.int .i64 0) ∧ w = w' := by
  go_enter Try.func28, Try.ntmps28
  go_wp2
  go_ret
  exact ⟨rfl, rfl⟩

set_option maxHeartbeats 400000 in
theorem check_nil (w : World) :
    Calls Try.prog 28 #[.pointer none] w fun e w' => e = .returned (.int .i64 1) ∧ w = w' := by
  go_enter Try.func28, Try.ntmps28
  go_wp2
  go_ret
  exact ⟨rfl, rfl⟩

set_option maxHeartbeats 800000 in
theorem inside_any (B : Nat) (off n : Int) (ad : Option Addr) (len cap : Nat) (w : World) (hl : len ≤ 4194304) (h1 : -9223372036854775808 ≤ off) (h2 : off ≤ 9223372036854775807)
   (hc : w.cell? ⟨B, 2, none⟩ = some (.slice ad len cap)) :
    Calls Try.prog 29 #[.pointer (some ⟨B, 0, none⟩), .int .i64 off, .int .i64 n] w fun e w' => e = .returned (.bool (insideB off n len)) ∧ w = w' := by
  by_cases ha : 0 ≤ off
  · by_cases hb : 0 ≤ n
    · by_cases hc' : off ≤ len
      · by_cases hd : n ≤ len - off
        · go_enter Try.func29, Try.ntmps29
          go_wp2
          go_ret
          exact ⟨by simp [insideB]; omega, rfl⟩
        · go_enter Try.func29, Try.ntmps29
          go_wp2
          go_ret
          exact ⟨by simp [insideB]; omega, rfl⟩
      · go_enter Try.func29, Try.ntmps29
        go_wp2
        go_ret
        exact ⟨by simp [insideB]; omega, rfl⟩
    · go_enter Try.func29, Try.ntmps29
      go_wp2
      go_ret
      exact ⟨by simp [insideB]; omega, rfl⟩
  · go_enter Try.func29, Try.ntmps29
    go_wp2
    go_ret
    exact ⟨by simp [insideB]; omega, rfl⟩

set_option maxHeartbeats 400000 in
theorem size_any (B : Nat) (w : World) (ad : Option Addr) (n c : Nat) (hc : w.cell? ⟨B, 2, none⟩ = some (.slice ad n c)) :
    Calls Try.prog 16 #[.pointer (some ⟨B, 0, none⟩)] w fun e w' => e = .returned (.int .i64 n) ∧ w = w' := by
  go_enter Try.func16, Try.ntmps16
  go_wp2
  go_ret
  exact ⟨rfl, rfl⟩
set_option maxHeartbeats 400000 in
theorem size_nil (w : World) :
    Calls Try.prog 16 #[.pointer none] w fun e w' => e = .returned (.int .i64 0) ∧ w = w' := by
  go_enter Try.func16, Try.ntmps16
  go_wp2
  go_ret
  exact ⟨rfl, rfl⟩
set_option maxHeartbeats 400000 in
theorem pending_any (B : Nat) (w : World) (ad : Option Addr) (n c : Nat) (hc : w.cell? ⟨B, 4, none⟩ = some (.slice ad n c)) :
    Calls Try.prog 17 #[.pointer (some ⟨B, 0, none⟩)] w fun e w' => e = .returned (.int .i64 n) ∧ w = w' := by
  go_enter Try.func17, Try.ntmps17
  go_wp2
  go_ret
  exact ⟨rfl, rfl⟩
set_option maxHeartbeats 400000 in
theorem pending_nil (w : World) :
    Calls Try.prog 17 #[.pointer none] w fun e w' => e = .returned (.int .i64 0) ∧ w = w' := by
  go_enter Try.func17, Try.ntmps17
  go_wp2
  go_ret
  exact ⟨rfl, rfl⟩

theorem row5 (w : World) (B : Nat) (a b c d e : Value) (h : w.heap[B]? = some (.cells [a, b, c, d, e].toArray 65 (0, 0))) (u v : Value) :
    ((w.setCell ⟨B, 1, none⟩ u).setCell ⟨B, 0, none⟩ v).heap[B]? = some (.cells [v, u, c, d, e].toArray 65 (0, 0)) := by
  have h1 := heap_setCell_same w B 1 _ 65 u h
  have h2 := heap_setCell_same _ B 0 _ 65 v h1
  rw [h2]
  simp

set_option maxHeartbeats 800000 in
theorem used_any {w : World} {B bd bv n : Nat} {pv : Value} {s : St} (h : IsDisk w B bd bv pv n s) (hl : 0 ≤ s.left ∧ s.left ≤ 9223372036854775807) :
    Calls Try.prog 36 #[.pointer (some ⟨B, 0, none⟩)] w fun e w' => e = .returned (.tuple #[]) ∧ IsDisk w' B bd bv pv n (used s) ∧ Fr (fun k => k = B) w w' := by
  have c0 := h.c0
  have c1 := h.c1
  have f0 := h.fr 0
  have f1 := h.fr 1
  obtain ⟨hl0, hl1⟩ := hl
  by_cases h0 : s.left = 0
  · have hz : (s.left == 0) = true := by simp [h0]
    have H := hid h
    clear h
    go_enter Try.func36, Try.ntmps36
    go_wp2
    have h := H.out
    refine bodyPost_ret (results_none rfl _ _ _) rfl ?_
    exact ⟨rfl, by unfold used; rw [if_pos h0]; exact h, Fr.refl _ _⟩
  · have hz : (s.left == 0) = false := by simp [h0]
    have H := hid h
    clear h
    go_enter Try.func36, Try.ntmps36
    go_wp2
    go_end0
    have h := H.out
    refine ⟨rfl, ?_, by refine Fr.set1 ?_ (by rfl) _ _; refine Fr.set1 ?_ (by rfl) _ _; exact Fr.refl _ _⟩
    have hr := row5 w B _ _ _ _ _ h.hB (.int .i64 (s.left - 1)) (.bool (s.left - 1 == 0))
    have hk : ∀ k, k ≠ B → ((w.setCell ⟨B, 1, none⟩ (.int .i64 (s.left - 1))).setCell ⟨B, 0, none⟩ (.bool (s.left - 1 == 0))).heap[k]? = w.heap[k]? := fun k hk =>
      (Below.heap_setCell _ _ _ _ hk).trans (Below.heap_setCell _ _ _ _ hk)
    unfold used
    rw [if_neg h0]
    exact { hB := hr, hd := (hk bd h.nBd.symm).trans h.hd, hv := (hk bv h.nBv.symm).trans h.hv,
            hp := h.hp.kept (row := some B) ⟨rfl, rfl, rfl, by simp [World.setCell], fun k _ e => hk k (fun e' => e (by rw [e']))⟩ (.inr h.npB),
            ne := h.ne, ld := h.ld, lv := h.lv, n1 := h.n1, n2 := h.n2 }
end Go.Proofs.Ytlnngeafhinpkaa
