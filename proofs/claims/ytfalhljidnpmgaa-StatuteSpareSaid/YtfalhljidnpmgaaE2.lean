/- StatuteSpare's walk. No condition beside the bounds. -/
import Derived.Test.YtfalhljidnpmgaaE1
import Derived.Test.YtfalhljidnpmgaaP3
set_option linter.unusedVariables false
set_option linter.unusedSimpArgs false
namespace Go.Proofs.Ytfalhljidnpmgaa
open Go.RowKit Go.Proofs.Statute Go.Maps

theorem Reads.drop {α : Type} {K : Nat → Prop} {w : World} {sz : Nat} {enc : α → List Value} {b o n c : Nat} {xs : List α} (h : Reads K w sz enc (.slice (some ⟨b, o, none⟩) n c) xs) (k : Nat) (hk : k ≤ n) : Reads K w sz enc (.slice (if c = k then some ⟨b, o, none⟩ else some ⟨b, o + k * sz, none⟩) (n - k) (c - k)) (xs.drop k) := by
  obtain ⟨a', c', e, h1, h2, h3⟩ := h
  injection e with e1 e2 e3
  subst e2 e3
  refine ⟨_, _, by rw [List.length_drop], by rw [List.length_drop]; omega, by omega, fun hp => ?_⟩
  rw [List.length_drop] at hp
  obtain ⟨b', o', ea, hb, hl, hx⟩ := h3 (by omega)
  rw [ea] at e1
  injection e1 with e1
  injection e1 with e1 e4 _
  subst e1 e4
  rw [if_neg (by omega)]
  refine ⟨b, o + k * sz, rfl, hb, hl, fun i hi j u hu => ?_⟩
  rw [List.length_drop] at hi
  rw [List.getElem_drop] at hu
  have := hx (k + i) (by omega) j u hu
  rw [Nat.add_mul] at this
  rw [show o + k * sz + i * sz = o + (k * sz + i * sz) by omega]
  exact this
theorem check_bare {c : Rb} {q : Qn} (hv : validB c = true) (ha : asksB q = true) (i : Nat) (hi : i < ((jdOf c q).proof q.says).length) : checkB c q ((jdOf c q).truth q.says) (((jdOf c q).proof q.says).take i ++ ((jdOf c q).proof q.says).drop (i + 1)) = false := by
  unfold checkB
  rw [← List.eraseIdx_eq_take_drop_succ, hv, ha, proof_bare (jd_ok hv) (says_in ha).1 (says_in ha).2 i hi]
  rfl
theorem check_some {c : Rb} {q : Qn} (hv : validB c = true) (ha : asksB q = true) : ((jdOf c q).proof q.says).length ≠ 0 := proof_some (jd_ok hv) (says_in ha).1 (says_in ha).2
set_option maxRecDepth 100000 in
set_option maxHeartbeats 12800000 in
theorem spare_any {K : Nat → Prop} {w : World} {cv rv fv : Value} {x : Nums} (hx : NW K w cv rv fv x) (a b c d : Int) (ha : I64 a) (hb : I64 b) (hc : I64 c) (hd : I64 d) :
    Calls Try.prog 6 #[.agg #[cv, rv, fv], .agg #[.int .i64 a, .int .i64 b, .int .i64 c, .int .i64 d]] w (Yes true w) := by
  have HN0 := hid (hx.mono (K' := fun k => k < w.heap.size) (fun k hk _ => hk))
  obtain ⟨a1, c1, rfl, _⟩ := hx.hc
  obtain ⟨a2, c2, rfl, _⟩ := hx.hr
  obtain ⟨a3, c3, rfl, _⟩ := hx.hf
  have HS := hid (fun w => sane_any w)
  have HA := hid (fun w => ask_lit a b c d w ha hb hc hd)
  clear hx ha hb hc hd
  go_enter Try.func6, Try.ntmps6
  go_upto_region 1 with (fail)
  have h0 : ((w.alloc (.cells #[.slice a1 x.cs.length c1, .slice a2 x.rs.length c2, .slice a3 x.fs.length c3] 25)).alloc (.cells #[.int .i64 a, .int .i64 b, .int .i64 c, .int .i64 d] 26)).heap[w.heap.size]? = some (.cells #[.slice a1 x.cs.length c1, .slice a2 x.rs.length c2, .slice a3 x.fs.length c3] 25) := tower_old _ _ _ (by simp <;> omega) (tower_new _ _ _ (by simp))
  have h1 : ((w.alloc (.cells #[.slice a1 x.cs.length c1, .slice a2 x.rs.length c2, .slice a3 x.fs.length c3] 25)).alloc (.cells #[.int .i64 a, .int .i64 b, .int .i64 c, .int .i64 d] 26)).heap[w.heap.size + 1]? = some (.cells #[.int .i64 a, .int .i64 b, .int .i64 c, .int .i64 d] 26) := tower_new _ _ _ (by simp)
  have F : Hid (Fr (fun _ => False) w ((w.alloc (.cells #[.slice a1 x.cs.length c1, .slice a2 x.rs.length c2, .slice a3 x.fs.length c3] 25)).alloc (.cells #[.int .i64 a, .int .i64 b, .int .i64 c, .int .i64 d] 26))) := hid (((Fr.refl (fun _ => False) w).alloc (.cells #[.slice a1 x.cs.length c1, .slice a2 x.rs.length c2, .slice a3 x.fs.length c3] 25)).alloc (.cells #[.int .i64 a, .int .i64 b, .int .i64 c, .int .i64 d] 26))
  have HN := hid ((HN0.out.quiet F.out).mono (K' := fun _ => True) (fun _ _ _ => trivial))
  clear HN0
  generalize ((w.alloc (.cells #[.slice a1 x.cs.length c1, .slice a2 x.rs.length c2, .slice a3 x.fs.length c3] 25)).alloc (.cells #[.int .i64 a, .int .i64 b, .int .i64 c, .int .i64 d] 26)) = W at *
  generalize hsz : w.heap.size = b0 at *
  have M := hid (Mem.cons (b := b0 + 1) h1 (Mem.cons (b := b0) h0 (Mem.nil W)))
  clear h0 h1 hsz
  go_upto_region 3 with (go_at_call 9; refine (HS.out _).mono ?_; rintro e W ⟨rfl, f⟩; have F := hid (F.out.trans f); have HN := hid (HN.out.quiet f); have M := hid (M.out.quiet f); clear f)
  have HB := M.out.get 1 rfl
  have x0 := row_cell (l := [_, _, _]) HB 0
  have x1 := row_cell (l := [_, _, _]) HB 1
  have x2 := row_cell (l := [_, _, _]) HB 2
  simp only [List.getElem?_cons_zero, List.getElem?_cons_succ] at x0 x1 x2
  clear HB
  go_upto_region 4 with (go_at_call 10; refine (made_any HN.out).mono ?_; rintro e W ⟨ca, cb, cd, k1, k2, k3, m1, m2, m3, ms, N, rfl, ho, f⟩; have F := hid (F.out.trans f); have HN := hid (HN.out.quiet f); have M := hid (M.out.quiet f); have HR := hid (made_rb ho); clear ho; clear f)
  clear x0 x1 x2
  have hnew := heap_alloc_new W (.cells #[.slice ca k1 m1, .slice cb k2 m2, .slice cd k3 m3] 34)
  have f := (Fr.refl (fun _ => False) W).alloc (.cells #[.slice ca k1 m1, .slice cb k2 m2, .slice cd k3 m3] 34)
  have F := hid (F.out.trans f)
  have M := hid (M.out.quiet f)
  have HR := hid (HR.out.quiet f)
  have M := hid (Mem.cons hnew M.out)
  clear f hnew
  generalize W.alloc (.cells #[.slice ca k1 m1, .slice cb k2 m2, .slice cd k3 m3] 34) = W2 at *
  generalize W.heap.size = bc at *
  have HB := M.out.get 1 rfl
  have x0 := row_cell (l := [_, _, _, _]) HB 0
  have x1 := row_cell (l := [_, _, _, _]) HB 1
  have x2 := row_cell (l := [_, _, _, _]) HB 2
  have x3 := row_cell (l := [_, _, _, _]) HB 3
  simp only [List.getElem?_cons_zero, List.getElem?_cons_succ] at x0 x1 x2 x3
  clear HB
  have HV := hid (made_valid x)
  have HQ := hid (ask_valid a b c d)
  generalize made x = C at *
  generalize askOf a b c d = q at *
  go_upto_region 5 with (go_at_call 11; refine (HA.out _).mono ?_; rintro e W ⟨rfl, f⟩; have F := hid (F.out.trans f); have M := hid (M.out.quiet f); have HR := hid (HR.out.quiet f); clear f)
  clear x0 x1 x2 x3
  have hnew := heap_alloc_new W (.cells #[.int .i64 q.thing, .int .i64 q.says, .int .i64 q.sec, .int .i64 q.known] 37)
  have f := (Fr.refl (fun _ => False) W).alloc (.cells #[.int .i64 q.thing, .int .i64 q.says, .int .i64 q.sec, .int .i64 q.known] 37)
  have F := hid (F.out.trans f)
  have M := hid (M.out.quiet f)
  have HR := hid (HR.out.quiet f)
  have M := hid (Mem.cons hnew M.out)
  clear f hnew
  generalize W.alloc (.cells #[.int .i64 q.thing, .int .i64 q.says, .int .i64 q.sec, .int .i64 q.known] 37) = W2 at *
  generalize W.heap.size = bq at *
  have HB := M.out.get 1 rfl
  have x0 := row_cell (l := [_, _, _]) HB 0
  have x1 := row_cell (l := [_, _, _]) HB 1
  have x2 := row_cell (l := [_, _, _]) HB 2
  simp only [List.getElem?_cons_zero, List.getElem?_cons_succ] at x0 x1 x2
  clear HB
  have HB := M.out.get 0 rfl
  have y0 := row_cell (l := [_, _, _, _]) HB 0
  have y1 := row_cell (l := [_, _, _, _]) HB 1
  have y2 := row_cell (l := [_, _, _, _]) HB 2
  have y3 := row_cell (l := [_, _, _, _]) HB 3
  simp only [List.getElem?_cons_zero, List.getElem?_cons_succ] at y0 y1 y2 y3
  clear HB
  have HC := hid (check_proof HV.out HQ.out)
  have HPL : Hid (((jdOf C q).proof q.says).length ≤ 20) := hid (check_len HC.out)
  have HNO := hid (fun i hi => check_bare HV.out HQ.out i hi)
  have HNZ := hid (check_some HV.out HQ.out)
  have HD := hid (decide_c HR.out q HV.out HQ.out _ rfl _ rfl)
  generalize (jdOf C q).truth q.says = T at *
  generalize (jdOf C q).proof q.says = Lp at *
  clear HC
  go_upto_region 6 with (go_at_call 12; refine (HD.out).mono ?_; rintro e W ⟨pa, pn, pc, hn, rfl, ho, f⟩; have F := hid (F.out.trans f); have M := hid (M.out.quiet f); have HR := hid (HR.out.quiet f); have HP := hid (reads_D ho hn); have HPN := hid hn; have hcap := own_cap ho; clear ho hn HD; clear f)
  clear x0 x1 x2
  clear y0 y1 y2 y3
  have hpn : 0 < pn ∧ pn ≤ 20 := by
    have := HPN.out
    have := HNZ.out
    have := HPL.out
    omega
  obtain ⟨hpn0, hpn1⟩ := hpn
  obtain ⟨_, hcap1, hcap2⟩ := hcap
  have hne : ((pn : Int) == 0) = false := by
    have : (pn : Int) ≠ 0 := by omega
    simpa using this
  obtain ⟨bp, op, rfl⟩ : ∃ bp op, pa = some ⟨bp, op, none⟩ := by
    obtain ⟨a', c', e, _, _, h3⟩ := HP.out
    injection e with e1 _ _
    have hl0 : 0 < Lp.length := by have := HNZ.out; omega
    obtain ⟨b, o, ea, _⟩ := h3 hl0
    exact ⟨b, o, e1.trans ea⟩
  go_wp2
  go_loopw [10, 11] (fun s10 _ wr => ∃ k : Nat, k ≤ pn ∧ s10 = .int .i64 k ∧ Hid (Fr (fun _ => False) W wr)) (fun s10 _ _ => pn - (intOf s10).toNat)
  case atStart => exact ⟨0, by omega, rfl, hid (Fr.refl _ _)⟩
  case round =>
    obtain ⟨k, hk, rfl, hF⟩ := hrel
    have F := hid (F.out.trans hF.out)
    have M := hid (M.out.quiet hF.out)
    have HR := hid (HR.out.quiet hF.out)
    have HP := hid (HP.out.quiet hF.out)
    by_cases hlt : k < pn
    · have hw1 : IntKind.i64.wrap ((k : Int) + 1) = ((k + 1 : Nat) : Int) := by
        rw [show ((k : Int) + 1) = ((k + 1 : Nat) : Int) by omega]
        exact Go.IntWalk.i64_in _ ⟨by omega, by omega⟩
      have hkc : k ≤ pc := by omega
      have hb0 : 0 ≤ (k : Int) + 1 := by omega
      have hb1 : (k : Int) + 1 ≤ (pn : Int) := by omega
      have hk1 : k + 1 ≤ pn := by omega
      have HT := hid (HP.out.take k (by have := HPN.out; omega))
      have HDr := hid (HP.out.drop (k + 1) hk1)
      have HNk := hid (HNO.out k (by have := HPN.out; omega))
      have HLk : Hid (pn - (k + 1) = (Lp.drop (k + 1)).length) := hid (by rw [List.length_drop, HPN.out])
      have HLt : Hid (k = (Lp.take k).length) := hid (by rw [List.length_take]; have := HPN.out; omega)
      generalize Lp.drop (k + 1) = L2 at HDr HNk HLk
      generalize Lp.take k = L1 at HT HNk HLt
      go_wp2
      refine wp_region_T (fun _ : World => True) 10 (by kernel_rfl) (by (try dsimp only); (try trivial)) (fun hHeld => ?_)
      try dsimp only at hHeld
      refine wpAnyT_take 1 (v := ?_) rfl (by kernel_rfl) (fun _ _ _ h => h) ⟨by rfl, ?_⟩ (by assumption) ?_
      rotate_left; · (intro w hSw; (try dsimp only at hSw); go_simp <;> with_reducible rfl)
      try simp only [Act.put, List.setIfInBounds_toArray, List.set_cons_zero, List.set_cons_succ]
      refine wpAnyT_take 2 (v := ?_) rfl (by kernel_rfl) (fun _ _ _ h => h) ⟨by rfl, ?_⟩ (by assumption) ?_
      rotate_left; · (intro w hSw; (try dsimp only at hSw); go_simp <;> with_reducible rfl)
      try simp only [Act.put, List.setIfInBounds_toArray, List.set_cons_zero, List.set_cons_succ]
      refine wpAnyT_take 3 (v := ?_) rfl (by kernel_rfl) (fun _ _ _ h => h) ⟨by rfl, ?_⟩ (by assumption) ?_
      rotate_left; · (intro w hSw; (try dsimp only at hSw); go_simp <;> with_reducible rfl)
      try simp only [Act.put, List.setIfInBounds_toArray, List.set_cons_zero, List.set_cons_succ]
      refine wpAnyT_take 5 (v := ?_) rfl (by kernel_rfl) (fun _ _ _ h => h) ⟨by rfl, ?_⟩ (by assumption) ?_
      rotate_left; · (intro w hSw; (try dsimp only at hSw); go_simp <;> with_reducible rfl)
      try simp only [Act.put, List.setIfInBounds_toArray, List.set_cons_zero, List.set_cons_succ]
      refine wpAnyT_take 6 (v := ?_) rfl (by kernel_rfl) (fun _ _ _ h => h) ⟨by rfl, ?_⟩ (by assumption) ?_
      rotate_left; · (intro w hSw; (try dsimp only at hSw); go_simp <;> with_reducible rfl)
      try simp only [Act.put, List.setIfInBounds_toArray, List.set_cons_zero, List.set_cons_succ]
      refine wpAnyT_take 7 (v := ?_) rfl (by kernel_rfl) (fun _ _ _ h => h) ⟨by rfl, ?_⟩ (by assumption) ?_
      rotate_left; · (intro w hSw; (try dsimp only at hSw); go_simp <;> with_reducible rfl)
      try simp only [Act.put, List.setIfInBounds_toArray, List.set_cons_zero, List.set_cons_succ]
      refine wpAnyT_take 8 (v := ?_) rfl (by kernel_rfl) (fun _ _ _ h => h) ⟨by rfl, ?_⟩ (by assumption) ?_
      rotate_left; · (intro w hSw; (try dsimp only at hSw); go_simp <;> with_reducible rfl)
      try simp only [Act.put, List.setIfInBounds_toArray, List.set_cons_zero, List.set_cons_succ]
      refine wpAnyT_head 0 rfl (by kernel_rfl) (fun K hK => ?_)
      go_simp
      refine hK.out _ _ ?_ (fun hHeld => ?_)
      · (try dsimp only); (try trivial)
      try dsimp only at hHeld
      clear hK K
      refine wpAnyT_head 4 rfl (by kernel_rfl) (fun K hK => ?_)
      (refine step_of rfl (append_op0 kindD (base := wr.heap.size) (n := 0) (m := k) (v := .slice (some ⟨wr.heap.size, 0, none⟩) 0 0) (xs := ([] : List Fnd)) (World.ownsRow_lit wr.drew #[] 0 (Nat.le_refl _) (by unfold maxLen; omega) rfl) (by rw [World.size_alloc]; exact Nat.le_succ _) (HT.out.quiet (((Fr.refl (fun _ => False) wr).drew).alloc (.cells #[] 63))) HLt.out (by omega) (fun y _ => encD_one y) (.tmp 38) (.tmp 41) rfl (by rfl) (by rfl) ?_); intro ad3 c3 w3 h3 f3 g3; simp only [Nat.zero_add, List.nil_append] at h3 g3 ⊢; have H3 := hid h3; have F3 := hid ((((Fr.refl (fun _ => False) wr).drew).alloc (.cells #[] 63)).then f3 (fun i hi e => by have e2 : some wr.heap.size = some i := e; injection e2 with e2; omega)); clear h3 f3)
      refine hK.out _ _ ?_ (fun hHeld => ?_)
      · (try dsimp only); (try trivial)
      try dsimp only at hHeld
      clear hK K
      refine wpAnyT_head 9 rfl (by kernel_rfl) (fun K hK => ?_)
      (refine step_of rfl (append_op0 kindD (base := wr.heap.size) (n := k) (m := pn - (k + 1)) (v := .slice ad3 k c3) (xs := L1) H3.out F3.out.size (HDr.out.quiet F3.out) HLk.out (by omega) (fun y _ => encD_one y) (.tmp 42) (.tmp 46) rfl (by rfl) (by rfl) ?_); intro ad4 c4 w4 h4 f4 g4; have H4 := hid h4; have F4 := hid (F3.out.then f4 (fun i hi e => by have := own_base H3.out i e; omega)); clear h4 f4)
      refine hK.out _ _ ?_ (fun hHeld => ?_)
      · (try dsimp only); (try trivial)
      try dsimp only at hHeld
      clear hK K
      refine wpAnyT_tail 10 rfl (by kernel_rfl) (by kernel_rfl) (fun K hK => ?_)
      go_simp
      refine hK.out _ _ ?_
      clear hK K
      refine wpAnyT_done (by kernel_rfl) ?_
      have hs4 : k + (pn - (k + 1)) ≤ 20 := by omega
      have R4 := hid (reads_D (xs := L1 ++ L2) H4.out (by rw [List.length_append, ← HLk.out, ← HLt.out]))
      have HL4 : Hid ((L1 ++ L2).length ≤ 1000000) := hid (by rw [List.length_append, ← HLk.out, ← HLt.out]; omega)
      have f := F4.out
      have F := hid (F.out.trans f)
      have M := hid (M.out.quiet f)
      have HR := hid (HR.out.quiet f)
      have HP := hid (HP.out.quiet f)
      have hF := hid (hF.out.trans f)
      clear f
      have HB := M.out.get 1 rfl
      have x0 := row_cell (l := [_, _, _]) HB 0
      have x1 := row_cell (l := [_, _, _]) HB 1
      have x2 := row_cell (l := [_, _, _]) HB 2
      simp only [List.getElem?_cons_zero, List.getElem?_cons_succ] at x0 x1 x2
      clear HB
      have HB := M.out.get 0 rfl
      have y0 := row_cell (l := [_, _, _, _]) HB 0
      have y1 := row_cell (l := [_, _, _, _]) HB 1
      have y2 := row_cell (l := [_, _, _, _]) HB 2
      have y3 := row_cell (l := [_, _, _, _]) HB 3
      simp only [List.getElem?_cons_zero, List.getElem?_cons_succ] at y0 y1 y2 y3
      clear HB
      go_wp2_with (go_at_call 13; refine (check_c HR.out q T R4.out HL4.out false HNk.out).mono ?_; rintro e W ⟨rfl, f⟩; have hF := hid (hF.out.trans f); clear f)
      refine ⟨⟨k + 1, by omega, by go_num, hF⟩, by simp [intOf]; omega⟩
    · obtain rfl : k = pn := by omega
      clear hlt hk
      go_wp2
      go_ret
      exact ⟨rfl, F.out⟩
end Go.Proofs.Ytfalhljidnpmgaa
