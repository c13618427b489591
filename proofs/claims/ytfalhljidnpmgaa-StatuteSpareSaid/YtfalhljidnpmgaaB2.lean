/- so: it is as the rules have it. No condition beside the bounds. -/
import Derived.Test.YtfalhljidnpmgaaB1
import Derived.StillTailTactics
set_option linter.unusedVariables false
set_option linter.unusedSimpArgs false
namespace Go.Proofs.Ytfalhljidnpmgaa
open Go.RowKit Go.Proofs.Statute Go.Maps

theorem still_tail {P : Program} {id : Nat} {Q : Exit → Act → World → Prop} {a : Act} {w : World} {l : List Oper} (n : Nat) (hm : P.follows .mixedOrders = true) (hB : Region.lexTailB .any l.toArray n = true)
    (h : wpStill P l.toArray w.drew (fun a' => wpList P l.toArray Q (l.drop n) a' w.drew) (l.take n) a) : (Code.region id l.toArray true).wp P Q a w :=
  wp_region_still_tail n hm hB h
set_option maxRecDepth 100000 in
set_option maxHeartbeats 6400000 in
theorem so_of {ms : List CM} {j : Jd} {m : Nat} (hm : m ≤ 19) (ih : ∀ m', m' < m → SoAt ms j m') : SoAt ms j m := by
  intro K w J b cl rl fl fv gv kn h
  have HFN : Hid (∀ W, JW K W J b cl rl fl fv gv ms j kn → Calls Try.prog 48 #[.pointer (some ⟨J, 0, none⟩), .int .i64 m] W (FindR W b j kn m)) := hid (fun W hW => find_of hm ih K W J b cl rl fl fv gv kn hW)
  have HT := hid (truth_fix h.ok (n := (m : Int)) (by omega) (by omega))
  rw [HT.out]
  clear HT ih
  have j5 := row_cell h.hJ 5
  simp only [List.getElem?_cons_zero, List.getElem?_cons_succ] at j5
  have H := hid h
  have HX : Hid (∃ s t u v, j.fd m = ⟨s, t, u, v⟩) := hid ⟨_, _, _, _, rfl⟩
  have hbw := h.map.lt
  have hJw := row_lt h.hJ
  have hJb : J ≠ b := fun e => h.kb (by rw [← e]; exact h.kJ)
  clear h
  cases hk : kn m with
  | true =>
    have HK := hid hk
    clear hk
    obtain ⟨s, t, u, v, hx⟩ := HX.out
    have HV : Hid (.agg #[.int .i64 s, .bool t, .int .i64 u, .int .i64 v] = if kn m then dval (j.fd m) else dzero) := hid (by rw [HK.out, if_pos rfl, hx]; rfl)
    have HH : Hid ((j.fd m).holds = t) := hid (by rw [hx])
    rw [HH.out]
    clear hx HX HFN
    go_enter Try.func31, Try.ntmps31
    go_wp2_with (at_lookup; refine wp_look rfl (.tmp 11) (.tmp 12) rfl (by rfl) H.out.map m hm (by rfl) (.agg #[.int .i64 s, .bool t, .int .i64 u, .int .i64 v]) HV.out ?_; rw [HK.out])
    go_ret
    exact ⟨by simp, kn, H.out.map.fr ((Fr.refl (fun _ => False) _).alloc _) (fun e => e), (Fr.refl _ _).alloc _, fun _ h => h, fun _ h => .inl h, HK.out⟩
  | false =>
    have HK := hid hk
    clear hk
    have HV : Hid (dzero = if kn m then dval (j.fd m) else dzero) := hid (by rw [HK.out]; rfl)
    obtain ⟨s, t, u, v, hx⟩ := HX.out
    have HXX := hid hx
    clear hx HX
    have HJ0 := hid H.out.hJ
    have HRW : Hid ((w.alloc (.cells #[.int .i64 0, .bool false, .int .i64 0, .int .i64 0] 63)).heap[w.heap.size]? = some (.cells [.int .i64 0, .bool false, .int .i64 0, .int .i64 0].toArray 63 (0, 0))) := hid (heap_alloc_new w _)
    go_enter Try.func31, Try.ntmps31
    go_wp2_with (first | (at_lookup; refine wp_look rfl (.tmp 11) (.tmp 12) rfl (by rfl) H.out.map m hm (by rfl) dzero HV.out ?_; rw [HK.out]; unfold dzero) | (go_at_call 48; refine (HFN.out _ (H.out.alloc _)).mono ?_; rintro e w5 ⟨he, kn5, m5, f5, s5, t5⟩; rw [HXX.out] at he; unfold dval at he; dsimp only at he; subst he; have B5 := (f5.block w.heap.size (by simp) (by omega)).trans HRW.out; have c60 := row_cell B5 0; have c61 := row_cell B5 1; have c62 := row_cell B5 2; have c63 := row_cell B5 3; have z60 := row_free B5 0; have z61 := row_free B5 1; have z62 := row_free B5 2; have z63 := row_free B5 3; simp only [List.getElem?_cons_zero, List.getElem?_cons_succ] at c60 c61 c62 c63; have HB5 := hid B5; have M5 := hid m5; have F5 : Hid (Fr (fun k => k = b) w w5) := hid ((((Fr.refl (fun _ => False) w).alloc _).non).trans f5); have S5 := hid s5; have T5 := hid t5; clear B5 m5 f5 s5 t5))
    obtain ⟨r4, fr4⟩ := set4 HB5.out (.int .i64 s) (.bool t) (.int .i64 u) (.int .i64 v)
    clear c60 c61 c62 c63 z60 z61 z62 z63
    have M9 := hid (M5.out.fr fr4 (by omega))
    have j9 := (fr4.cell (Nat.lt_of_lt_of_le hJw F5.out.size) (by omega) 5).trans ((F5.out.cell hJw hJb 5).trans j5)
    generalize (((w5.setCell ⟨w.heap.size, 0, none⟩ (.int .i64 s)).setCell ⟨w.heap.size, 1, none⟩ (.bool t)).setCell ⟨w.heap.size, 2, none⟩ (.int .i64 u)).setCell ⟨w.heap.size, 3, none⟩ (.int .i64 v) = W9 at r4 fr4 M9 j9 ⊢
    have F9 := hid (F5.out.then fr4 (fun i hi e => by omega))
    have s0 := row_cell r4 0
    have s1 := row_cell r4 1
    have s2 := row_cell r4 2
    have s3 := row_cell r4 3
    simp only [List.getElem?_cons_zero, List.getElem?_cons_succ] at s0 s1 s2 s3
    have R4 := hid r4
    have HS9 := hid (row_lt r4)
    clear r4 fr4 j5
    have NK : Hid (kn5 m = false) := hid (by
      cases h : kn5 m with
      | false => rfl
      | true =>
        rcases T5.out m h with e | e
        · rw [HK.out] at e; exact absurd e (by simp)
        · omega)
    refine still_tail 6 (by kernel_rfl) (by kernel_rfl) ?_
    simp only [List.take_succ_cons, List.take_zero, List.drop_succ_cons, List.drop_zero]
    repeat still_step
    refine wpStill_nil ?_
    go_wp2_with (at_mapUpdate; refine wp_upd rfl (.tmp 24) (.tmp 25) (.tmp 26) rfl (by rfl) (M9.out.keep (w' := W9.drew) rfl) m hm NK.out (by rfl) (by rw [HXX.out]; rfl) ?_; intro w6 m6 f6; have x1 := (f6.cell (k := w.heap.size) HS9.out (by omega) 1).trans s1; have M6 := hid m6; have F6 := hid f6; clear m6 f6)
    go_ret
    refine ⟨by rw [HXX.out]; simp, _, M6.out, F9.out.drew.trans F6.out, fun x hx => by simp [S5.out x hx], fun x hx => ?_, by simp⟩
    simp only [Bool.or_eq_true, beq_iff_eq] at hx
    rcases hx with hx | rfl
    · exact (T5.out x hx).imp (fun e => e) (fun e => by omega)
    · exact .inr (Nat.le_refl _)
theorem so_any {ms : List CM} {j : Jd} : ∀ m, m ≤ 19 → SoAt ms j m := by
  intro m
  induction m using Nat.strongRecOn with
  | ind m ih => exact fun hm => so_of hm (fun m' hlt => ih m' hlt (by omega))
end Go.Proofs.Ytfalhljidnpmgaa
