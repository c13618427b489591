/- onto. -/
import Derived.Test.YtlnngeafhinpkaaD1
set_option linter.unusedVariables false
set_option linter.unusedSimpArgs false
namespace Go.Proofs.Ytlnngeafhinpkaa
open Go.RowKit

set_option maxRecDepth 100000 in
set_option maxHeartbeats 800000 in
theorem onto_any (w : World) (g off n : Nat) (s : ByteArray) (cur : Bs) (hg : w.heap[g]? = some (.cells (bvs cur).toArray 5 (0, 0))) (hn : cur.length = n) (hm : n ≤ 4194304) (hfit : off + s.size ≤ n) :
    Calls Try.prog 35 #[.agg #[.int .i64 off, .string s], .slice (some ⟨g, 0, none⟩) n n] w fun e w' => e = .returned (.tuple #[]) ∧
      w'.heap[g]? = some (.cells (bvs (put cur off s.data.toList)).toArray 5 (0, 0)) ∧ Fr (fun k => k = g) w w' := by
  have hlt := row_lt hg
  have HG := hid hg
  clear hg
  have HA : Hid (∀ o : Obj, (w.alloc o).heap[g]? = some (.cells (bvs cur).toArray 5 (0, 0))) := fun o => (Below.heap_alloc w o g hlt).trans HG.out
  by_cases hoff : off = n
  · obtain rfl := hoff
    go_enter Try.func35, Try.ntmps35
    go_wp2
    go_region_law ((refine step_of rfl (wp_copy_str (.tmp 7) (.tmp 9) 40 9 rfl 5 rfl (by kernel_rfl) _ _ _ (by rfl) s (by rfl) g off cur 5 (HA.out _) (fun h => by omega) (by omega) (by omega) ?_)); (intro w2 h2 h3))
    all_goals
      go_end0
      exact ⟨rfl, h2, ((Fr.refl _ _).alloc _).drew.trans h3⟩
  · have hlt2 : (off : Int) < (n : Int) := by omega
    have hlt3 : (off : Int) ≤ (n : Int) := by omega
    have hne : ¬ (n = off) := by omega
    go_enter Try.func35, Try.ntmps35
    go_wp2
    go_region_law ((refine step_of rfl (wp_copy_str (.tmp 7) (.tmp 9) 40 9 rfl 5 rfl (by kernel_rfl) _ _ _ (by rfl) s (by rfl) g off cur 5 (HA.out _) (fun _ => by rfl) (by omega) (by omega) ?_)); (intro w2 h2 h3))
    all_goals
      go_end0
      exact ⟨rfl, h2, ((Fr.refl _ _).alloc _).drew.trans h3⟩

theorem zero69 (W : World) : (zeroValue 69).run Try.prog W = .ok (.agg #[.int .i64 0, .string ByteArray.empty]) W := by kernel_rfl
theorem info69 : (Try.prog.info? 69).map (fun i => (i.zero, i.size, i.bytes)) = some (some (.agg #[.int .i64 0, .string ByteArray.empty]), 2, 24) := by kernel_rfl
theorem info5 : (Try.prog.info? 5).map (·.size) = some 1 := by kernel_rfl

theorem row4 (w : World) (B : Nat) (a b c d e : Value) (h : w.heap[B]? = some (.cells [a, b, c, d, e].toArray 65 (0, 0))) (u : Value) :
    (w.setCell ⟨B, 4, none⟩ u).heap[B]? = some (.cells [a, b, c, d, u].toArray 65 (0, 0)) := by
  have h1 := heap_setCell_same w B 4 _ 65 u h
  rw [h1]
  simp

theorem IsDisk.inB {w w' : World} {B bd bv n : Nat} {pv : Value} {s : St} (h : IsDisk w B bd bv pv n s) (hk : w'.heap[B]? = w.heap[B]?) : w'.cell? ⟨B, 4, none⟩ = some pv ∧ w'.frozen? ⟨B, 4, none⟩ = false := by
  have hB := hk.trans h.hB
  exact ⟨by rw [row_cell hB]; rfl, row_free hB 4⟩
theorem own_empty {w : World} {base : Nat} {e : TypeId} {size n m : Nat} {a : Option Addr} {c : Nat} {xs : List Value} (h : w.ownsRow base e size (.slice a n c) m xs) : w.ownsRow base e size (.slice a 0 c) 0 [] := by
  refine ⟨by simp, ?_⟩
  rcases h.2 with ⟨hv, _⟩ | ⟨g, cap, cur, hv, hb, hg, hn, hm, hs, ht⟩
  · injection hv with h1 h2 h3
    subst h1; subst h3
    exact .inl ⟨rfl, rfl⟩
  · injection hv with h1 h2 h3
    subst h1; subst h3
    exact .inr ⟨g, c, cur, rfl, hb, hg, Nat.zero_le _, hm, hs, by simp⟩

/-- What settle leaves, told of the two contents. -/
theorem settled {w w2 w3 : World} {B bd bv n g : Nat} {a : Option Addr} {l c : Nat} {s s' : St} {xs : List Value} (h : IsDisk w B bd bv (.slice a l c) n s) (hf : Fr (fun k => k = g) w w2) (hgB : g = bd ∨ g = bv)
    (hd : w2.heap[bd]? = some (.cells (bvs s'.dur).toArray 5 (0, 0))) (hv : w2.heap[bv]? = some (.cells (bvs s'.vis).toArray 5 (0, 0))) (ho : s'.off = s.off) (hl : s'.left = s.left) (hp : s'.pend = []) (l1 : s'.dur.length = n) (l2 : s'.vis.length = n)
    (h3 : w3.ownsRow 0 69 2 (.slice a l c) s.pend.length xs) (hg : w2.grownBy w3 (Value.slice a l c).ownBlock) :
    IsDisk (w3.setCell ⟨B, 4, none⟩ (.slice a 0 c)) B bd bv (.slice a 0 c) n s' ∧ Fr (Foot B bd bv (.slice a l c)) w (w3.setCell ⟨B, 4, none⟩ (.slice a 0 c)) := by
  have hgne : g ≠ B := by rcases hgB with rfl | rfl; exact h.nBd.symm; exact h.nBv.symm
  have hb2 : ∀ k, k < w.heap.size → k < w2.heap.size := fun k hk => Nat.lt_of_lt_of_le hk hf.size
  have hB3 : w3.heap[B]? = w.heap[B]? := (hg.block B (hb2 _ h.lB) (fun e => h.npB e.symm)).trans (hf.block B h.lB hgne.symm)
  have hB4 := row4 w3 B _ _ _ _ _ (hB3.trans h.hB) (.slice a 0 c)
  have hk : ∀ k, k ≠ B → (w3.setCell ⟨B, 4, none⟩ (.slice a 0 c)).heap[k]? = w3.heap[k]? := fun k hk => Below.heap_setCell _ _ _ _ hk
  have hown4 : (w3.setCell ⟨B, 4, none⟩ (.slice a 0 c)).ownsRow 0 69 2 (.slice a 0 c) 0 [] := own_empty (h3.kept (row := some B) ⟨rfl, rfl, rfl, by simp [World.setCell], fun k _ e => hk k (fun e' => e (by rw [e']))⟩ (.inr h.npB))
  refine ⟨{ hB := by rw [ho, hl]; exact hB4, hd := (hk bd h.nBd.symm).trans ((hg.block bd (hb2 _ h.ld') (fun e => h.npd e.symm)).trans hd), hv := (hk bv h.nBv.symm).trans ((hg.block bv (hb2 _ h.lv') (fun e => h.npv e.symm)).trans hv),
            hp := by rw [hp]; exact hown4, ne := h.ne, ld := l1, lv := l2, n1 := h.n1, n2 := h.n2 }, ?_⟩
  refine Fr.set1 ?_ (Or.inl rfl) _ _
  refine Fr.grown (b := w2) (row := (Value.slice a l c).ownBlock) ?_ hg (fun k e _ => Or.inr (Or.inr (Or.inr e)))
  exact hf.mono (fun k _ e => by subst e; rcases hgB with rfl | rfl; exact .inr (.inl rfl); exact .inr (.inr (.inl rfl)))

theorem own_same (a : Option Addr) (l l' c c' : Nat) : (Value.slice a l c).ownBlock = (Value.slice a l' c').ownBlock := by cases a <;> rfl

set_option maxRecDepth 100000 in
set_option maxHeartbeats 800000 in
/-- settle, from the visible content to the durable one. -/
theorem settle_sync {w : World} {B bd bv n : Nat} {pv : Value} {s : St} (h : IsDisk w B bd bv pv n s) :
    Calls Try.prog 37 #[.pointer (some ⟨B, 0, none⟩), .slice (some ⟨bv, 0, none⟩) n n, .slice (some ⟨bd, 0, none⟩) n n] w fun e w' => e = .returned (.tuple #[]) ∧
      (∃ pv', IsDisk w' B bd bv pv' n { s with dur := s.vis, pend := [] } ∧ pv'.ownBlock = pv.ownBlock) ∧ Fr (Foot B bd bv pv) w w' := by
  have H := hid h
  clear h
  have hc : ∃ a c, pv = .slice a s.pend.length c := by obtain ⟨a, c, h, _⟩ := H.out.shape; exact ⟨a, c, h⟩
  obtain ⟨a, c, rfl⟩ := hc
  go_enter Try.func37, Try.ntmps37
  go_wp2_with (first
    | (refine list_of rfl (wp_copy_row (.tmp 6) (.tmp 7) 40 40 rfl 5 rfl info5 bd bv n n n (by rfl) (by rfl) s.dur s.vis 5 5 H.out.hd H.out.hv H.out.ld H.out.lv ?_); intro w2 hd2 hf2; obtain ⟨c4, f4⟩ := H.out.inB (hf2.block B H.out.lB H.out.nBd))
    | (refine list_of rfl (wp_clear_own (.tmp 12) 63 rfl 69 rfl _ 2 zero69 (by rfl) (by simp [Value.cells, Value.oneCell']) _ _ _ (by rfl) (H.out.hp.kept (row := some bd) ⟨hf2.os, hf2.tape, hf2.output, hf2.size, fun k hk e => hf2.block k hk (fun e' => e (by rw [e']))⟩ (.inr H.out.npd)) ?_); intro w3 ys ho3 hg3; obtain ⟨d4, g4⟩ := H.out.inB ((hg3.block B (Nat.lt_of_lt_of_le H.out.lB hf2.size) (fun e => H.out.npB e.symm)).trans (hf2.block B H.out.lB H.out.nBd))))
  go_end0
  have hv2 := (hf2.block bv H.out.lv' H.out.ne.symm).trans H.out.hv
  obtain ⟨h1, h2⟩ := settled (s' := { s with dur := s.vis, pend := [] }) H.out hf2 (.inl rfl) hd2 hv2 rfl rfl rfl H.out.lv H.out.lv ho3 hg3
  exact ⟨rfl, ⟨_, h1, own_same _ _ _ _ _⟩, h2⟩

set_option maxRecDepth 100000 in
set_option maxHeartbeats 800000 in
/-- settle, from the durable content to the visible one. -/
theorem settle_crash {w : World} {B bd bv n : Nat} {pv : Value} {s : St} (h : IsDisk w B bd bv pv n s) :
    Calls Try.prog 37 #[.pointer (some ⟨B, 0, none⟩), .slice (some ⟨bd, 0, none⟩) n n, .slice (some ⟨bv, 0, none⟩) n n] w fun e w' => e = .returned (.tuple #[]) ∧
      (∃ pv', IsDisk w' B bd bv pv' n { s with vis := s.dur, pend := [] } ∧ pv'.ownBlock = pv.ownBlock) ∧ Fr (Foot B bd bv pv) w w' := by
  have H := hid h
  clear h
  have hc : ∃ a c, pv = .slice a s.pend.length c := by obtain ⟨a, c, h, _⟩ := H.out.shape; exact ⟨a, c, h⟩
  obtain ⟨a, c, rfl⟩ := hc
  go_enter Try.func37, Try.ntmps37
  go_wp2_with (first
    | (refine list_of rfl (wp_copy_row (.tmp 6) (.tmp 7) 40 40 rfl 5 rfl info5 bv bd n n n (by rfl) (by rfl) s.vis s.dur 5 5 H.out.hv H.out.hd H.out.lv H.out.ld ?_); intro w2 hd2 hf2; obtain ⟨c4, f4⟩ := H.out.inB (hf2.block B H.out.lB H.out.nBv))
    | (refine list_of rfl (wp_clear_own (.tmp 12) 63 rfl 69 rfl _ 2 zero69 (by rfl) (by simp [Value.cells, Value.oneCell']) _ _ _ (by rfl) (H.out.hp.kept (row := some bv) ⟨hf2.os, hf2.tape, hf2.output, hf2.size, fun k hk e => hf2.block k hk (fun e' => e (by rw [e']))⟩ (.inr H.out.npv)) ?_); intro w3 ys ho3 hg3; obtain ⟨d4, g4⟩ := H.out.inB ((hg3.block B (Nat.lt_of_lt_of_le H.out.lB hf2.size) (fun e => H.out.npB e.symm)).trans (hf2.block B H.out.lB H.out.nBv))))
  go_end0
  have hd2' := (hf2.block bd H.out.ld' H.out.ne).trans H.out.hd
  obtain ⟨h1, h2⟩ := settled (s' := { s with vis := s.dur, pend := [] }) H.out hf2 (.inr rfl) hd2' hd2 rfl rfl rfl H.out.ld H.out.ld ho3 hg3
  exact ⟨rfl, ⟨_, h1, own_same _ _ _ _ _⟩, h2⟩

end Go.Proofs.Ytlnngeafhinpkaa
