/- Write of the reference disk. No condition beside the sizes. -/
import Derived.Test.YtlnngeafhinpkaaJ3
set_option linter.unusedVariables false
set_option linter.unusedSimpArgs false
namespace Go.Proofs.Ytlnngeafhinpkaa
open Go.RowKit

theorem IsRef.vis {w : World} {R n : Nat} {dv pv : Value} {s : St} (h : IsRef w R dv pv n s) (v : Bs) : IsRef w R dv pv n { s with vis := v } where
  hR := h.hR
  hd := h.hd
  hp := h.hp
  ld := h.ld
  n1 := h.n1
  n2 := h.n2
  fit := h.fit
theorem IsRef.appended {w w1 : World} {R n : Nat} {dv pv v' : Value} {s : St} {p : List (Nat × ByteArray)} (h : IsRef w R dv pv n s) (f1 : Fr (fun k => pv.ownBlock = some k) w w1) (ho : w1.ownsRow 0 80 2 v' p.length (pcells p)) (hf : Fits n p) :
    w1.cell? ⟨R, 1, none⟩ = some pv ∧ w1.frozen? ⟨R, 1, none⟩ = false ∧ IsRef (w1.setCell ⟨R, 1, none⟩ v') R dv v' n { s with pend := p } := by
  have hR1 := (f1.block R h.lR h.np).trans h.hR
  have hd1 := own_kept (w' := w1) h.hd (fun k e => f1.block k (own_base h.hd k e).2 (h.dp k e))
  refine ⟨by rw [row_cell hR1]; rfl, row_free hR1 1, ?_⟩
  exact { hR := by have h1 := heap_setCell_same w1 R 1 _ 43 v' hR1; rw [h1]; simp
          hd := own_kept hd1 (fun k e => Below.heap_setCell _ _ _ _ (fun e' => own_ne hd1 hR1 (by decide) (by rw [e]; exact congrArg some e')))
          hp := own_kept ho (fun k e => Below.heap_setCell _ _ _ _ (fun e' => own_ne ho hR1 (by decide) (by rw [e]; exact congrArg some e')))
          ld := h.ld
          n1 := h.n1
          n2 := h.n2
          fit := hf }

theorem rwrote {w w1 w2 : World} {R n : Nat} {dv pv v' r : Value} {s' : St} (h : IsRef w2 R dv v' n s') (f1 : Fr (fun k => pv.ownBlock = some k) w w1) (hv : ∀ k, v'.ownBlock = some k → pv.ownBlock = some k ∨ w.heap.size ≤ k) (f2 : Fr (RFoot R dv pv) w1 w2) :
    RDid w R dv pv n r s' (.returned r) w2 := by
  refine ⟨rfl, ⟨dv, v', h, ?_⟩, (f1.mono (fun k _ e => .inr (.inr e))).trans f2⟩
  rintro k (e | e | e)
  · exact .inl (.inl e)
  · exact .inl (.inr (.inl e))
  · rcases hv k e with e | e
    · exact .inl (.inr (.inr e))
    · exact .inr e
set_option maxRecDepth 100000 in
set_option maxHeartbeats 6400000 in
theorem rwrite_any {w : World} {R n : Nat} {dv pv : Value} {s : St} (h : IsRef w R dv pv n s) (hpl : s.pend.length ≤ 1000000) (off : Int) (str : ByteArray) (ho1 : -9223372036854775808 ≤ off) (ho2 : off ≤ 9223372036854775807)
    (hl : 0 ≤ s.left ∧ s.left ≤ 9223372036854775807) (hsz : str.size ≤ 9223372036854775807) :
    Calls Try.prog 30 #[.pointer (some ⟨R, 0, none⟩), .int .i64 off, .string str] w (RDid w R dv pv n (.int .i64 (writeS s n off str).1) (writeS s n off str).2) := by
  have n2 := h.n2
  have c2 := h.c2
  have c0 := h.c0
  obtain ⟨g, c, rfl, hg⟩ := h.dform
  have H := hid h
  clear h hg
  cases hs : s.off with
  | true =>
    rw [hs] at c2
    have HS := hid hs
    clear hs
    go_enter Try.func30, Try.ntmps30
    go_wp2
    go_ret
    have e : writeS s n off str = (91, s) := by unfold writeS; rw [if_pos HS.out]
    rw [e]
    exact RDid.same H.out
  | false =>
    rw [hs] at c2
    have HS := hid hs
    clear hs
    cases hi : insideB off str.size n with
    | false =>
      have HI := hid hi
      have e : writeS s n off str = (90, s) := by unfold writeS; rw [if_neg (by rw [HS.out]; simp), hi]; rfl
      rw [e]
      clear e hi
      have HR := hid (RDid.same (r := .int .i64 90) H.out)
      by_cases ha : 0 ≤ off
      · by_cases hc' : off ≤ n
        · by_cases hd : str.size ≤ n - off
          · have := HI.out
            simp only [insideB, decide_eq_false_iff_not] at this
            exact absurd ⟨ha, by omega, hc', hd⟩ this
          · go_enter Try.func30, Try.ntmps30
            go_wp2
            go_ret
            exact HR.out
        · go_enter Try.func30, Try.ntmps30
          go_wp2
          go_ret
          exact HR.out
      · go_enter Try.func30, Try.ntmps30
        go_wp2
        go_ret
        exact HR.out
    | true =>
      have hb : 0 ≤ off ∧ 0 ≤ (str.size : Int) ∧ off ≤ (n : Int) ∧ str.size ≤ (n : Int) - off := by simpa [insideB] using hi
      obtain ⟨hb1, hb2, hb3, hb4⟩ := hb
      obtain ⟨o, rfl⟩ := Int.eq_ofNat_of_zero_le hb1
      have e : writeS s n o str = (0, wrote s o str) := by unfold writeS; rw [if_neg (by rw [HS.out]; simp), if_pos hi]; rfl
      rw [e]
      clear e hi hb2
      have c1 := H.out.c1
      have HF : Hid (Fits n (s.pend ++ [(o, str)])) := hid (by
        intro y hy
        simp only [List.mem_append, List.mem_singleton] at hy
        rcases hy with hy | rfl
        · exact H.out.fit y hy
        · dsimp only; omega)
      have hleft : s.left = 0 ∨ s.left = 1 ∨ 2 ≤ s.left := by omega
      rcases hleft with hl0 | hl0 | hl0
      · have hu : wrote s o str = { s with vis := put s.vis o str.data.toList, pend := s.pend ++ [(o, str)] } := by unfold wrote used; rw [if_pos hl0]
        rw [hu]
        clear hu
        go_enter Try.func30, Try.ntmps30
        go_wp2_with (refine append_change H.out.hp (Nat.zero_le _) hpl (o, str) rfl (.tmp 38) (.tmp 42) rfl (by rfl) (by rfl) (by rfl) ?_; intro g2 cap2 w1 hown1 f1 hv1; obtain ⟨k1, g1, h3⟩ := H.out.appended f1 hown1 HF.out; have c3 := h3.c3; dsimp only at c3; rw [hl0] at c3; have H3 := hid h3; have F1 := hid f1; have V1 := hid hv1; clear h3 f1 hv1 hown1)
        go_ret
        exact rwrote (H3.out.vis _) F1.out V1.out ((Fr.refl _ _).set1 (.inl rfl) _ _)
      · have hu : wrote s o str = { s with vis := put s.vis o str.data.toList, pend := s.pend ++ [(o, str)], left := 0, off := true } := by unfold wrote used; rw [if_neg (by simp [hl0])]; simp [hl0]
        rw [hu]
        clear hu
        go_enter Try.func30, Try.ntmps30
        go_wp2_with (refine append_change H.out.hp (Nat.zero_le _) hpl (o, str) rfl (.tmp 38) (.tmp 42) rfl (by rfl) (by rfl) (by rfl) ?_; intro g2 cap2 w1 hown1 f1 hv1; obtain ⟨k1, g1, h3⟩ := H.out.appended f1 hown1 HF.out; have c3 := h3.c3; dsimp only at c3; rw [hl0] at c3; have g3 := h3.fz 3; have h4 := h3.set3 0; have g4 := h4.fz 2; have c4 := h4.c2; have H3 := hid (h4.set2 true); have F1 := hid f1; have V1 := hid hv1; clear h3 f1 hv1 hown1 h4)
        go_ret
        exact rwrote (H3.out.vis _) F1.out V1.out ((((Fr.refl _ _).set1 (.inl rfl) _ _).set1 (.inl rfl) _ _).set1 (.inl rfl) _ _)
      · obtain ⟨l, hl1⟩ := Int.eq_ofNat_of_zero_le (show 0 ≤ s.left by omega)
        have hl2 := hl.2
        rw [hl1] at hl0 hl2
        have hu : wrote s o str = { s with vis := put s.vis o str.data.toList, pend := s.pend ++ [(o, str)], left := s.left - 1, off := s.off } := by
          unfold wrote used
          have e : ((l : Int) - 1 == 0) = false := by simp; omega
          rw [if_neg (by simp [hl1]; omega)]
          simp only [hl1, e, HS.out]
        rw [hu]
        clear hu
        go_enter Try.func30, Try.ntmps30
        go_wp2_with (refine append_change H.out.hp (Nat.zero_le _) hpl (o, str) rfl (.tmp 38) (.tmp 42) rfl (by rfl) (by rfl) (by rfl) ?_; intro g2 cap2 w1 hown1 f1 hv1; obtain ⟨k1, g1, h3⟩ := H.out.appended f1 hown1 HF.out; have c3 := h3.c3; dsimp only at c3; rw [hl1] at c3; have g3 := h3.fz 3; have h4 := h3.set3 (s.left - 1); rw [hl1] at h4; have c4 := h4.c3; dsimp only at c4; have H3 := hid h4; have F1 := hid f1; have V1 := hid hv1; clear h3 f1 hv1 hown1 h4)
        go_ret
        exact rwrote (H3.out.vis _) F1.out V1.out (((Fr.refl _ _).set1 (.inl rfl) _ _).set1 (.inl rfl) _ _)
end Go.Proofs.Ytlnngeafhinpkaa
