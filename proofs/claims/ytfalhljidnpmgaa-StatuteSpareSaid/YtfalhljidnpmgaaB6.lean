/- isRight, of a finding that something is not so. No condition beside the bounds. -/
import Derived.Test.YtfalhljidnpmgaaB5
import Derived.Laws.EntriesVeiled
set_option linter.unusedVariables false
set_option linter.unusedSimpArgs false
namespace Go.Proofs.Ytfalhljidnpmgaa
open Go.RowKit Go.Proofs.Statute Go.Maps


set_option maxRecDepth 100000 in
set_option maxHeartbeats 6400000 in
theorem right_c {K : Nat → Prop} {w : World} {J b : Nat} {cl rl fl fv gv lv : Value} {ms : List CM} {j : Jd} {kn : Nat → Bool} {l : List Fnd} {K2 : Nat → Prop} (h : JW K w J b cl rl fl fv gv ms j kn) (hr : Reads K2 w 4 encD lv l) (hl : l.length ≤ 1000000) (x : Fnd) (hH : x.holds = false) :
    Calls Try.prog 49 #[.pointer (some ⟨J, 0, none⟩), .agg (encD x).toArray, lv] w fun e w' => e = .returned (.bool (j.right l x)) ∧ Fr (fun _ => False) w w' := by
  obtain ⟨s, H, f, c⟩ := x
  unfold encD
  dsimp only at *
  have hjr : j.right l ⟨s, H, f, c⟩ = (if H && c == -1 then hasN j.F f && (fcAt j.c f.toNat).says == s
    else if H then f == -1 && hasN j.G c && (clAt j.c c.toNat).gives == s && (clAt j.c c.toNat).needs.all (fun n => finds l n true) && (clAt j.c c.toNat).bars.all (fun n => finds l n false)
    else (f == -1 && c == -1) && !j.F.any (fun i => (fcAt j.c i).says == s) && !j.G.any fun i => (clAt j.c i).gives == s && !barred l (clAt j.c i)) := rfl
  rw [hjr]
  clear hjr
  obtain ⟨al, cll, rfl, hcl1, hcl2, _⟩ := id hr
  have BX := hid (boxes_new w J s H f c (.slice al l.length cll))
  have HW := hid (h.quiet BX.out.fr)
  have HFN := hid (BX.out.fin hr hl)
  obtain ⟨a4, e4, hfv, _⟩ := h.hF
  obtain ⟨a5, e5, hgv, _⟩ := h.hG
  rw [nats_length] at hfv hgv
  subst hfv hgv
  obtain ⟨a1, c1, rfl, _⟩ := h.rb.hc
  obtain ⟨a2, e2, rfl, _⟩ := h.rb.hr
  obtain ⟨a3, e3, rfl, _⟩ := h.rb.hf
  have hlF := h.lF
  have hlG := h.lG
  have j0 := row_cell HW.out.hJ 0
  have j2 := row_cell HW.out.hJ 2
  have j3 := row_cell HW.out.hJ 3
  have j4 := row_cell HW.out.hJ 4
  simp only [List.getElem?_cons_zero, List.getElem?_cons_succ] at j0 j2 j3 j4
  subst hH
  rw [if_neg (by simp), if_neg (by simp)]
  have HBJ : Hid (∀ W, Fr (fun _ => False) (((((w.alloc (.cells #[.pointer (some ⟨J, 0, none⟩)] 78)).alloc (.cells #[.int .i64 s, .bool false, .int .i64 f, .int .i64 c] 63)).alloc (.cells #[.slice al l.length cll] 28)).alloc (.cells #[.func (.func 60) #[] #[.pointer (some ⟨w.heap.size + 1 + 1, 0, none⟩)]] 111)).alloc (.cells #[.func (.func 63) #[] #[.pointer (some ⟨w.heap.size, 0, none⟩), .pointer (some ⟨w.heap.size + 1 + 1 + 1, 0, none⟩)]] 81)) W → Boxes w W J s false f c (.slice al l.length cll)) := hid (fun W hW => BX.out.quiet hW)
  have HCF : Hid (∀ W, Fr (fun _ => False) (((((w.alloc (.cells #[.pointer (some ⟨J, 0, none⟩)] 78)).alloc (.cells #[.int .i64 s, .bool false, .int .i64 f, .int .i64 c] 63)).alloc (.cells #[.slice al l.length cll] 28)).alloc (.cells #[.func (.func 60) #[] #[.pointer (some ⟨w.heap.size + 1 + 1, 0, none⟩)]] 111)).alloc (.cells #[.func (.func 63) #[] #[.pointer (some ⟨w.heap.size, 0, none⟩), .pointer (some ⟨w.heap.size + 1 + 1 + 1, 0, none⟩)]] 81)) W → Calls Try.prog 56 #[.slice a4 j.F.length e4, .func (.func 69) #[] #[.pointer (some ⟨w.heap.size, 0, none⟩), .pointer (some ⟨w.heap.size + 1, 0, none⟩)]] W fun e w' => e = .returned (.bool (j.F.any fun i => (fcAt j.c i).says == s)) ∧ Fr (fun _ => False) W w') := hid (fun W hW => by
    have e : (j.F.any fun i => (fcAt j.c i).says == s) = (nats j.F).any fun y => (fcAt j.c y.toNat).says == s := by unfold nats; rw [List.any_map]; rfl
    rw [e]
    have hJ := HW.out.quiet hW
    refine anyI (K := K) (fun y => (fcAt j.c y.toNat).says == s) 69 #[] #[.pointer (some ⟨w.heap.size, 0, none⟩), .pointer (some ⟨w.heap.size + 1, 0, none⟩)] enters69 _ (nats j.F) W (by rw [nats_length]; omega) (by simpa [nats_length] using hJ.hF) ?_
    intro k hk W' hf
    rw [nats_length] at hk
    have hB := (HBJ.out W hW).quiet hf
    have := closure69 (hJ.quiet hf) (bj := w.heap.size) (bx := w.heap.size + 1) (by rw [row_cell hB.b0]; rfl) s (by rw [row_cell hB.b1]; rfl) j.F[k] (hJ.inF _ (List.getElem_mem hk))
    rw [nats_get _ _ hk]
    simpa using this)
  have HCG : Hid (∀ W, Fr (fun _ => False) (((((w.alloc (.cells #[.pointer (some ⟨J, 0, none⟩)] 78)).alloc (.cells #[.int .i64 s, .bool false, .int .i64 f, .int .i64 c] 63)).alloc (.cells #[.slice al l.length cll] 28)).alloc (.cells #[.func (.func 60) #[] #[.pointer (some ⟨w.heap.size + 1 + 1, 0, none⟩)]] 111)).alloc (.cells #[.func (.func 63) #[] #[.pointer (some ⟨w.heap.size, 0, none⟩), .pointer (some ⟨w.heap.size + 1 + 1 + 1, 0, none⟩)]] 81)) W → Calls Try.prog 56 #[.slice a5 j.G.length e5, .func (.func 70) #[] #[.pointer (some ⟨w.heap.size, 0, none⟩), .pointer (some ⟨w.heap.size + 1, 0, none⟩), .pointer (some ⟨w.heap.size + 1 + 1 + 1 + 1, 0, none⟩)]] W fun e w' => e = .returned (.bool (j.G.any fun i => (clAt j.c i).gives == s && !barred l (clAt j.c i))) ∧ Fr (fun _ => False) W w') := hid (fun W hW => by
    have e : (j.G.any fun i => (clAt j.c i).gives == s && !barred l (clAt j.c i)) = (nats j.G).any fun y => (clAt j.c y.toNat).gives == s && !barred l (clAt j.c y.toNat) := by unfold nats; rw [List.any_map]; rfl
    rw [e]
    have hJ := HW.out.quiet hW
    refine anyI (K := K) (fun y => (clAt j.c y.toNat).gives == s && !barred l (clAt j.c y.toNat)) 70 #[] #[.pointer (some ⟨w.heap.size, 0, none⟩), .pointer (some ⟨w.heap.size + 1, 0, none⟩), .pointer (some ⟨w.heap.size + 1 + 1 + 1 + 1, 0, none⟩)] enters70 _ (nats j.G) W (by rw [nats_length]; omega) (by simpa [nats_length] using hJ.hG) ?_
    intro k hk W' hf
    rw [nats_length] at hk
    have hB := (HBJ.out W hW).quiet hf
    have := closure70 (hJ.quiet hf) (bj := w.heap.size) (bx := w.heap.size + 1) (bb := w.heap.size + 1 + 1 + 1 + 1) (by rw [row_cell hB.b0]; rfl) s (by rw [row_cell hB.b1]; rfl) ((HFN.out.quiet hW).quiet hf) (by rw [row_cell hB.b4]; rfl) j.G[k] (hJ.inG _ (List.getElem_mem hk))
    rw [nats_get _ _ hk]
    simpa using this)
  generalize (j.F.any fun i => (fcAt j.c i).says == s) = A at HCF
  generalize (j.G.any fun i => (clAt j.c i).gives == s && !barred l (clAt j.c i)) = B at HCG
  have FB := hid BX.out.fr
  have hJw := row_lt h.hJ
  have HJJ := hid HW.out.hJ
  clear h hr HW HFN HBJ BX
  have T1 := hid trivial
  by_cases hf1 : f = -1
  · subst hf1
    by_cases hc1 : c = -1
    · subst hc1
      cases A with
      | true =>
        go_enter Try.func49, Try.ntmps49
        go_wp2_with (first | (go_at_call 56; refine (HCF.out _ (Fr.refl _ _)).mono ?_; rintro e w1 ⟨rfl, f1⟩))
        go_ret
        exact ⟨by simp, FB.out.trans f1⟩
      | false =>
        go_enter Try.func49, Try.ntmps49
        go_wp2_with (first | (go_at_call 56; clear T1; refine (HCF.out _ (Fr.refl _ _)).mono ?_; rintro e w1 ⟨rfl, f1⟩; have r1 := f1.cells; have k4 := (f1.cells J 4 (row_lt HJJ.out)).trans j4; have F1 := hid f1; clear f1) | (go_at_call 56; refine (HCG.out _ F1.out).mono ?_; rintro e w2 ⟨rfl, f2⟩))
        go_ret
        exact ⟨by simp, (FB.out.trans F1.out).trans f2⟩
    · go_enter Try.func49, Try.ntmps49
      go_wp2

      go_ret
      exact ⟨by simp [hc1], FB.out⟩
  · go_enter Try.func49, Try.ntmps49
    go_wp2
    go_ret
    exact ⟨by simp [hf1], FB.out⟩
end Go.Proofs.Ytfalhljidnpmgaa
