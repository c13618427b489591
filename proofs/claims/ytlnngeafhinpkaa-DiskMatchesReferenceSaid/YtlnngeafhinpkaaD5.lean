/- What Write of the disk does. No condition beside the sizes. -/
import Derived.Test.YtlnngeafhinpkaaD4
set_option linter.unusedVariables false
set_option linter.unusedSimpArgs false
namespace Go.Proofs.Ytlnngeafhinpkaa
open Go.RowKit

def wrote (s : St) (o : Nat) (str : ByteArray) : St := used { s with vis := put s.vis o str.data.toList, pend := s.pend ++ [(o, str)] }
def writeS (s : St) (n : Nat) (off : Int) (str : ByteArray) : Int × St :=
  if s.off then (91, s) else if insideB off str.size n then (0, wrote s off.toNat str) else (90, s)

theorem write_nil (off : Int) (str : ByteArray) (w : World) : Calls Try.prog 21 #[.pointer none, .int .i64 off, .string str] w fun e w' => e = .returned (.int .i64 1) ∧ w = w' := by
  go_enter Try.func21, Try.ntmps21
  go_wp2_with (go_at_call 28; refine (check_nil _).mono ?_; rintro e w' ⟨rfl, rfl⟩)
  go_ret
  exact ⟨rfl, rfl⟩

/-- What the append to the pending writes leaves, behind its store. -/
theorem IsDisk.appended {w w1 w2 : World} {B bd bv n : Nat} {pv : Value} {s : St} (h : IsDisk w B bd bv pv n s) (h1 : Fr (fun _ => False) w w1) (g c : Nat) (x : Nat × ByteArray)
    (ho : w2.ownsRow 0 69 2 (.slice (some ⟨g, 0, none⟩) (s.pend.length + 1) c) (s.pend.length + 1) (pcells s.pend ++ [.int .i64 x.1, .string x.2])) (hg : w1.grownBy w2 pv.ownBlock) (hat : pv.ownBlock = some g ∨ g = w1.heap.size) :
    IsDisk (w2.setCell ⟨B, 4, none⟩ (.slice (some ⟨g, 0, none⟩) (s.pend.length + 1) c)) B bd bv (.slice (some ⟨g, 0, none⟩) (s.pend.length + 1) c) n { s with pend := s.pend ++ [x] } ∧
      ((Value.slice (some ⟨g, 0, none⟩) (s.pend.length + 1) c).ownBlock = pv.ownBlock ∨ ∃ k, (Value.slice (some ⟨g, 0, none⟩) (s.pend.length + 1) c).ownBlock = some k ∧ w.heap.size ≤ k) ∧
      Fr (Foot B bd bv pv) w (w2.setCell ⟨B, 4, none⟩ (.slice (some ⟨g, 0, none⟩) (s.pend.length + 1) c)) := by
  have hlt : ∀ k, k < w.heap.size → k < w1.heap.size := fun k hk => Nat.lt_of_lt_of_le hk h1.size
  have hk2 : ∀ k, k < w.heap.size → pv.ownBlock ≠ some k → w2.heap[k]? = w.heap[k]? := fun k hk hp => (hg.block k (hlt k hk) (fun e => hp e.symm)).trans (h1.block k hk (fun x => x))
  have hgB : g ≠ B := by
    rintro rfl
    rcases hat with hat | hat
    · exact h.npB hat
    · have := hlt _ h.lB; omega
  have hk : ∀ k, k ≠ B → (w2.setCell ⟨B, 4, none⟩ (.slice (some ⟨g, 0, none⟩) (s.pend.length + 1) c)).heap[k]? = w2.heap[k]? := fun k hk => Below.heap_setCell _ _ _ _ hk
  have hB4 := row4 w2 B _ _ _ _ _ ((hk2 B h.lB h.npB).trans h.hB) (.slice (some ⟨g, 0, none⟩) (s.pend.length + 1) c)
  refine ⟨{ hB := hB4, hd := (hk bd h.nBd.symm).trans ((hk2 bd h.ld' h.npd).trans h.hd), hv := (hk bv h.nBv.symm).trans ((hk2 bv h.lv' h.npv).trans h.hv),
            hp := ?_, ne := h.ne, ld := h.ld, lv := h.lv, n1 := h.n1, n2 := h.n2 }, ?_, ?_⟩
  · have := ho.kept (w' := w2.setCell ⟨B, 4, none⟩ (.slice (some ⟨g, 0, none⟩) (s.pend.length + 1) c)) (row := some B) ⟨rfl, rfl, rfl, by simp [World.setCell], fun k _ e => hk k (fun e' => e (by rw [e']))⟩ (.inr (by simp [Value.ownBlock]; exact hgB))
    rw [pcells_snoc, List.length_append]
    exact this
  · rcases hat with hat | hat
    · exact .inl hat.symm
    · exact .inr ⟨g, rfl, by rw [hat]; exact h1.size⟩
  · refine Fr.set1 ?_ (Or.inl rfl) _ _
    refine Fr.grown (b := w1) (row := pv.ownBlock) ?_ hg (fun k e _ => Or.inr (Or.inr (Or.inr e)))
    exact h1.mono (fun k _ e => e.elim)

theorem IsDisk.past {w w2 : World} {B bd bv n : Nat} {pv : Value} {s : St} (h : IsDisk w B bd bv pv n s) (X Y : Obj) (cs : Array Value) (hX : X = .cells cs 69 (0, 0)) (hg : (((w.alloc X).alloc Y).drew).grownBy w2 pv.ownBlock) :
    w2.cell? ⟨B, 4, none⟩ = some pv ∧ w2.frozen? ⟨B, 4, none⟩ = false ∧ w2.cell? ⟨B, 3, none⟩ = some (.slice (some ⟨bv, 0, none⟩) n n) ∧ w2.heap[w.heap.size]? = some X := by
  have hB : w2.heap[B]? = w.heap[B]? := (hg.block B (by have := h.lB; simp; omega) (fun e => h.npB e.symm)).trans (((Below.heap_alloc _ _ _ (by have := h.lB; simp; omega))).trans (Below.heap_alloc _ _ _ h.lB))
  have hB' := hB.trans h.hB
  refine ⟨by rw [row_cell hB']; rfl, row_free hB' 4, by rw [row_cell hB']; rfl, ?_⟩
  exact (hg.block w.heap.size (by simp; omega) (fun e => by have := h.lp _ e.symm; omega)).trans ((Below.heap_alloc _ _ _ (by simp)).trans (heap_alloc_new w X))

theorem IsDisk.vis' {w w2 : World} {B bd bv n : Nat} {pv : Value} {s : St} (h : IsDisk w B bd bv pv n s) (f : Fr (fun k => k = bv) w w2) (v : Bs) (hv : w2.heap[bv]? = some (.cells (bvs v).toArray 5 (0, 0))) (l : v.length = n) :
    IsDisk w2 B bd bv pv n { s with vis := v } where
  hB := (f.block B h.lB h.nBv).trans h.hB
  hd := (f.block bd h.ld' h.ne).trans h.hd
  hv := hv
  hp := h.hp.kept (row := some bv) ⟨f.os, f.tape, f.output, f.size, fun k hk e => f.block k hk (fun e' => e (by rw [e']))⟩ (.inr h.npv)
  ne := h.ne
  ld := h.ld
  lv := l
  n1 := h.n1
  n2 := h.n2
theorem IsDisk.dur' {w w2 : World} {B bd bv n : Nat} {pv : Value} {s : St} (h : IsDisk w B bd bv pv n s) (f : Fr (fun k => k = bd) w w2) (v : Bs) (hv : w2.heap[bd]? = some (.cells (bvs v).toArray 5 (0, 0))) (l : v.length = n) :
    IsDisk w2 B bd bv pv n { s with dur := v } where
  hB := (f.block B h.lB h.nBd).trans h.hB
  hd := hv
  hv := (f.block bv h.lv' h.ne.symm).trans h.hv
  hp := h.hp.kept (row := some bd) ⟨f.os, f.tape, f.output, f.size, fun k hk e => f.block k hk (fun e' => e (by rw [e']))⟩ (.inr h.npd)
  ne := h.ne
  ld := l
  lv := h.lv
  n1 := h.n1
  n2 := h.n2

set_option maxRecDepth 100000 in
set_option maxHeartbeats 3200000 in
theorem write_any {w : World} {B bd bv n : Nat} {pv : Value} {s : St} (h : IsDisk w B bd bv pv n s) (off : Int) (str : ByteArray) (ho1 : -9223372036854775808 ≤ off) (ho2 : off ≤ 9223372036854775807)
    (hl : 0 ≤ s.left ∧ s.left ≤ 9223372036854775807) (hp : s.pend.length ≤ 1000000) (hsz : str.size ≤ 9223372036854775807) :
    Calls Try.prog 21 #[.pointer (some ⟨B, 0, none⟩), .int .i64 off, .string str] w (Did w B bd bv pv n (.int .i64 (writeS s n off str).1) (writeS s n off str).2) := by
  have c0 := h.c0
  have c2 := h.c2
  have n2 := h.n2
  have H := hid h
  clear h
  have HL := hid hl
  clear hl
  cases hs : s.off with
  | true =>
    rw [hs] at c0
    have HS := hid hs
    clear hs
    go_enter Try.func21, Try.ntmps21
    go_wp2_with (go_at_call 28; refine (check_off _ _ (by assumption)).mono ?_; rintro e w' ⟨rfl, rfl⟩)
    go_ret
    have e : writeS s n off str = (91, s) := by unfold writeS; rw [if_pos HS.out]
    rw [e]
    exact Did.same H.out
  | false =>
    rw [hs] at c0
    have HS := hid hs
    clear hs
    cases hi : insideB off str.size n with
    | false =>
      have HI := hid hi
      clear hi
      go_enter Try.func21, Try.ntmps21
      go_wp2_with (first | (go_at_call 28; refine (check_on _ _ (by assumption)).mono ?_; rintro e w' ⟨rfl, rfl⟩) | (go_at_call 29; refine (inside_b _ _ _ _ _ _ _ n2 ho1 ho2 c2 false HI.out).mono ?_; rintro e w' ⟨rfl, rfl⟩))
      go_ret
      have e : writeS s n off str = (90, s) := by unfold writeS; rw [if_neg (by rw [HS.out]; simp), HI.out]; rfl
      rw [e]
      exact Did.same H.out
    | true =>
      have hb : 0 ≤ off ∧ 0 ≤ (str.size : Int) ∧ off ≤ (n : Int) ∧ str.size ≤ (n : Int) - off := by simpa [insideB] using hi
      obtain ⟨hb1, hb2, hb3, hb4⟩ := hb
      obtain ⟨o, rfl⟩ := Int.eq_ofNat_of_zero_le hb1
      have e : writeS s n o str = (0, wrote s o str) := by unfold writeS; rw [if_neg (by rw [HS.out]; simp), if_pos hi]; rfl
      rw [e]
      clear e hi
      obtain ⟨i0, hi0, hz0, hz1, hz2⟩ := info_parts info69
      have c4 := H.out.c4
      have f4 := H.out.fr 4
      have cB := H.out.lB
      go_enter Try.func21, Try.ntmps21
      go_wp2_with (first | (go_at_call 28; refine (check_on _ _ (by assumption)).mono ?_; rintro e w' ⟨rfl, rfl⟩) | (go_at_call 29; refine (inside_b _ _ _ _ _ _ _ n2 ho1 ho2 c2 true (inside_true (by omega))).mono ?_; rintro e w' ⟨rfl, rfl⟩))
      have HA : Hid (∀ X Y : Obj, (((w.alloc X).alloc Y).drew).ownsRow 0 69 2 pv s.pend.length (pcells s.pend)) := fun X Y => ((H.out.hp.alloc X).alloc Y).drew
      have hN : ∀ X Y : Obj, (((w.alloc X).alloc Y).heap[w.heap.size + 1]? = some Y) := fun X Y => by have := heap_alloc_new (w.alloc X) Y; simpa using this
      have HN := hid hN
      clear hN
      go_region_law ((refine step_append_lies _ rfl (.tmp 27) (.tmp 29) 63 rfl 0 69 i0 _ 2 24 Try.underlying63 hi0 hz0 hz1 hz2 rfl (by omega) pv s.pend.length (pcells s.pend) (by rfl) (HA.out _ _) ⟨w.heap.size + 1, 0, none⟩ 1 1 [.int .i64 o, .string str] (by rfl) (by rfl) (World.news_of_block (cs := #[.int .i64 o, .string str]) (t := 69) (fr := (0, 0)) (HN.out _ _)) (by simp [Value.oneCell']) (by omega) (by unfold maxLen; omega) (by omega) (by simp) (w.heap.size + 2) (by simp) ?_); (intro g c w2 ho hg hat hlt); (obtain ⟨d4, g4, d3, hX⟩ := H.out.past _ _ _ rfl hg); (have e0 := cell_of_row w2 w.heap.size 0 _ 69 (0, 0) hX); (have e1 := cell_of_row w2 w.heap.size 1 _ 69 (0, 0) hX))
      all_goals
        obtain ⟨D3, P3, F3⟩ := H.out.appended (((Fr.refl _ _).alloc _).alloc _).drew g c (o, str) ho hg (by simpa using hat)
        have hne : w.heap.size ≠ B := by omega
        have k0 : (w2.setCell ⟨B, 4, none⟩ (.slice (some ⟨g, 0, none⟩) (s.pend.length + 1) c)).heap[w.heap.size]? = some (.cells #[.int .i64 o, .string str] 69 (0, 0)) := (Below.heap_setCell _ _ _ _ hne).trans hX
        generalize w2.setCell ⟨B, 4, none⟩ (.slice (some ⟨g, 0, none⟩) (s.pend.length + 1) c) = W3 at D3 F3 k0 ⊢
        clear d4 g4 d3 hX e0 e1 ho hg hlt c0 c2 c4 f4 hat
        have e0 := cell_of_row W3 w.heap.size 0 _ 69 (0, 0) k0
        have e1 := cell_of_row W3 w.heap.size 1 _ 69 (0, 0) k0
        have d3 := D3.c3
        simp only [List.getElem?_toArray, List.getElem?_cons_zero, List.getElem?_cons_succ] at e0 e1
        have KD := hid D3
        clear D3 k0
        go_wp2
        go_region_with (go_at_call 35; refine (onto_any _ bv o n str s.vis (KD.out.drewN 1).hv KD.out.lv n2 (by omega)).mono ?_; rintro e w4 ⟨rfl, h4, h5⟩)
        all_goals
          have hsl : str.data.toList.length = str.size := by rw [Array.length_toList]; rfl
          have D5 : IsDisk w4 B bd bv (.slice (some ⟨g, 0, none⟩) (s.pend.length + 1) c) n { s with vis := put s.vis o str.data.toList, pend := s.pend ++ [(o, str)] } :=
            IsDisk.vis' (KD.out.drewN 1) h5 _ h4 (by rw [put_length _ _ _ (by rw [hsl, H.out.lv]; omega)]; exact H.out.lv)
          clear h4
          go_wp2_with (go_at_call 36; refine (used_any D5 HL.out).mono ?_; rintro e w6 ⟨rfl, h6, h7⟩)
          go_ret
          refine ⟨rfl, ⟨_, h6, P3⟩, ?_⟩
          refine F3.drewN 1 |>.trans ?_
          have q1 : Fr (Foot B bd bv pv) (W3.drewN 1) w4 := h5.mono (fun _ _ e => .inr (.inr (.inl e)))
          exact q1.trans (h7.mono (fun _ _ e => .inl e))
end Go.Proofs.Ytlnngeafhinpkaa
