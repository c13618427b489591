/- isRight. No condition beside the bounds. -/
import Derived.Test.YtfalhljidnpmgaaB4
import Derived.Laws.EntriesVeiled
set_option linter.unusedVariables false
set_option linter.unusedSimpArgs false
namespace Go.Proofs.Ytfalhljidnpmgaa
open Go.RowKit Go.Proofs.Statute Go.Maps

section
variable (w : World) (a b c d e : Obj)
theorem al0 : (((((w.alloc a).alloc b).alloc c).alloc d).alloc e).heap[w.heap.size]? = some a := by
  rw [Below.heap_alloc _ _ _ (by simp <;> omega)]
  exact alloc4_0 w a b c d
theorem al1 : (((((w.alloc a).alloc b).alloc c).alloc d).alloc e).heap[w.heap.size + 1]? = some b := by
  rw [Below.heap_alloc _ _ _ (by simp <;> omega)]
  exact alloc4_1 w a b c d
theorem al2 : (((((w.alloc a).alloc b).alloc c).alloc d).alloc e).heap[w.heap.size + 1 + 1]? = some c := by
  rw [Below.heap_alloc _ _ _ (by simp <;> omega)]
  exact alloc4_2 w a b c d
theorem al3 : (((((w.alloc a).alloc b).alloc c).alloc d).alloc e).heap[w.heap.size + 1 + 1 + 1]? = some d := by
  rw [Below.heap_alloc _ _ _ (by simp <;> omega)]
  have := heap_alloc_new (((w.alloc a).alloc b).alloc c) d
  simpa using this
theorem al4 : (((((w.alloc a).alloc b).alloc c).alloc d).alloc e).heap[w.heap.size + 1 + 1 + 1 + 1]? = some e := by
  have := heap_alloc_new ((((w.alloc a).alloc b).alloc c).alloc d) e
  simpa using this
end
/-- isRight's boxes. -/
structure Boxes (w W : World) (J : Nat) (s : Int) (H : Bool) (f c : Int) (lv : Value) : Prop where
  b0 : W.heap[w.heap.size]? = some (.cells [.pointer (some ⟨J, 0, none⟩)].toArray 78 (0, 0))
  b1 : W.heap[w.heap.size + 1]? = some (.cells [.int .i64 s, .bool H, .int .i64 f, .int .i64 c].toArray 63 (0, 0))
  b2 : W.heap[w.heap.size + 1 + 1]? = some (.cells [lv].toArray 28 (0, 0))
  b3 : W.heap[w.heap.size + 1 + 1 + 1]? = some (.cells [.func (.func 60) #[] #[.pointer (some ⟨w.heap.size + 1 + 1, 0, none⟩)]].toArray 111 (0, 0))
  b4 : W.heap[w.heap.size + 1 + 1 + 1 + 1]? = some (.cells [.func (.func 63) #[] #[.pointer (some ⟨w.heap.size, 0, none⟩), .pointer (some ⟨w.heap.size + 1 + 1 + 1, 0, none⟩)]].toArray 81 (0, 0))
  fr : Fr (fun _ => False) w W
theorem Boxes.quiet {w W W' : World} {J : Nat} {s : Int} {H : Bool} {f c : Int} {lv : Value} (h : Boxes w W J s H f c lv) (hf : Fr (fun _ => False) W W') : Boxes w W' J s H f c lv where
  b0 := (hf.block _ (row_lt h.b0) (fun e => e)).trans h.b0
  b1 := (hf.block _ (row_lt h.b1) (fun e => e)).trans h.b1
  b2 := (hf.block _ (row_lt h.b2) (fun e => e)).trans h.b2
  b3 := (hf.block _ (row_lt h.b3) (fun e => e)).trans h.b3
  b4 := (hf.block _ (row_lt h.b4) (fun e => e)).trans h.b4
  fr := h.fr.trans hf
theorem boxes_new (w : World) (J : Nat) (s : Int) (H : Bool) (f c : Int) (lv : Value) : Boxes w (((((w.alloc (.cells #[.pointer (some ⟨J, 0, none⟩)] 78)).alloc (.cells #[.int .i64 s, .bool H, .int .i64 f, .int .i64 c] 63)).alloc (.cells #[lv] 28)).alloc (.cells #[.func (.func 60) #[] #[.pointer (some ⟨w.heap.size + 1 + 1, 0, none⟩)]] 111)).alloc (.cells #[.func (.func 63) #[] #[.pointer (some ⟨w.heap.size, 0, none⟩), .pointer (some ⟨w.heap.size + 1 + 1 + 1, 0, none⟩)]] 81)) J s H f c lv :=
  ⟨al0 _ _ _ _ _ _, al1 _ _ _ _ _ _, al2 _ _ _ _ _ _, al3 _ _ _ _ _ _, al4 _ _ _ _ _ _, (((((Fr.refl _ _).alloc _).alloc _).alloc _).alloc _).alloc _⟩
theorem Boxes.fin {w W : World} {J : Nat} {s : Int} {H : Bool} {f c : Int} {lv : Value} (h : Boxes w W J s H f c lv) {K : Nat → Prop} {l : List Fnd} (hr : Reads K w 4 encD lv l) (hl : l.length ≤ 1000000) : Fin K W (w.heap.size + 1 + 1 + 1) (w.heap.size + 1 + 1) lv l where
  hf := by rw [row_cell h.b3]; rfl
  hb := by rw [row_cell h.b2]; rfl
  hr := hr.fr h.fr (fun _ _ e => e)
  hl := hl

set_option maxRecDepth 100000 in
set_option maxHeartbeats 6400000 in
theorem right_a {K : Nat → Prop} {w : World} {J b : Nat} {cl rl fl fv gv lv : Value} {ms : List CM} {j : Jd} {kn : Nat → Bool} {l : List Fnd} {K2 : Nat → Prop} (h : JW K w J b cl rl fl fv gv ms j kn) (hr : Reads K2 w 4 encD lv l) (hl : l.length ≤ 1000000) (x : Fnd) (hH : x.holds = true) (hc : x.clause = -1) :
    Calls Try.prog 49 #[.pointer (some ⟨J, 0, none⟩), .agg (encD x).toArray, lv] w fun e w' => e = .returned (.bool (j.right l x)) ∧ Fr (fun _ => False) w w' := by
  obtain ⟨s, H, f, c⟩ := x
  unfold encD
  dsimp only at *
  have hjr : j.right l ⟨s, H, f, c⟩ = (if H && c == -1 then hasN j.F f && (fcAt j.c f.toNat).says == s
    else if H then f == -1 && hasN j.G c && (clAt j.c c.toNat).gives == s && (clAt j.c c.toNat).needs.all (fun n => finds l n true) && (clAt j.c c.toNat).bars.all (fun n => finds l n false)
    else (f == -1 && c == -1) && !j.F.any (fun i => (fcAt j.c i).says == s) && !j.G.any fun i => (clAt j.c i).gives == s && !barred l (clAt j.c i)) := rfl
  rw [hjr]
  clear hjr
  obtain ⟨al, cll, rfl, hcl1, hcl2, _⟩ := id hr
  have BX := hid (boxes_new w J s H f c (.slice al l.length cll))
  have HW := hid (h.quiet BX.out.fr)
  have HFN := hid (BX.out.fin hr hl)
  obtain ⟨a4, e4, hfv, _⟩ := h.hF
  obtain ⟨a5, e5, hgv, _⟩ := h.hG
  rw [nats_length] at hfv hgv
  subst hfv hgv
  obtain ⟨a1, c1, rfl, _⟩ := h.rb.hc
  obtain ⟨a2, e2, rfl, _⟩ := h.rb.hr
  obtain ⟨a3, e3, rfl, _⟩ := h.rb.hf
  have hlF := h.lF
  have hlG := h.lG
  have j0 := row_cell HW.out.hJ 0
  have j2 := row_cell HW.out.hJ 2
  have j3 := row_cell HW.out.hJ 3
  have j4 := row_cell HW.out.hJ 4
  simp only [List.getElem?_cons_zero, List.getElem?_cons_succ] at j0 j2 j3 j4
  subst hH hc
  simp only [beq_self_eq_true, Bool.and_self, if_true]
  have HCT : Hid (∀ q b, hasN j.F f = b → Calls Try.prog 66 #[.slice a4 j.F.length e4, .int .i64 f] ((((((w.alloc (.cells #[.pointer (some ⟨J, 0, none⟩)] 78)).alloc (.cells #[.int .i64 s, .bool true, .int .i64 f, .int .i64 (-1)] 63)).alloc (.cells #[.slice al l.length cll] 28)).alloc (.cells #[.func (.func 60) #[] #[.pointer (some ⟨w.heap.size + 1 + 1, 0, none⟩)]] 111)).alloc (.cells #[.func (.func 63) #[] #[.pointer (some ⟨w.heap.size, 0, none⟩), .pointer (some ⟨w.heap.size + 1 + 1 + 1, 0, none⟩)]] 81)).drewN q) fun e w' => e = .returned (.bool b) ∧ (((((w.alloc (.cells #[.pointer (some ⟨J, 0, none⟩)] 78)).alloc (.cells #[.int .i64 s, .bool true, .int .i64 f, .int .i64 (-1)] 63)).alloc (.cells #[.slice al l.length cll] 28)).alloc (.cells #[.func (.func 60) #[] #[.pointer (some ⟨w.heap.size + 1 + 1, 0, none⟩)]] 111)).alloc (.cells #[.func (.func 63) #[] #[.pointer (some ⟨w.heap.size, 0, none⟩), .pointer (some ⟨w.heap.size + 1 + 1 + 1, 0, none⟩)]] 81)).drewN q = w') := hid (fun q b hb => contains66 (HW.out.hF.fr ((Fr.refl (fun _ => False) _).drewN q) (fun _ _ e => e)) (by rw [nats_length]; omega) f b (by rw [nats_any]; exact hb))
  cases hq : hasN j.F f with
  | false =>
    have HC := hid (fun q => HCT.out q false hq)
    clear HCT hq h hr
    go_enter Try.func49, Try.ntmps49
    go_wp2
    go_quiet ((go_at_call 66; exact Calls.quiet_of_same ((HC.out _).mono (fun _ _ h => ⟨h.1, h.2.symm⟩))))
    go_wp2
    go_ret
    exact ⟨by simp, BX.out.fr.drewN _⟩
  | true =>
    have HC := hid (fun q => HCT.out q true hq)
    obtain ⟨i, hi, hif⟩ : ∃ i ∈ j.F, (i : Int) = f := by
      unfold hasN at hq
      obtain ⟨i, hi, e⟩ := List.any_eq_true.1 hq
      exact ⟨i, hi, by simpa using e⟩
    have hin := HW.out.inF i hi
    subst hif
    have hl3 := HW.out.rb.l3
    obtain ⟨a3', c3', ee, _, _, h3⟩ := HW.out.rb.hf
    injection ee with ea _ eb
    subst ea eb
    obtain ⟨b3, o3, rfl, _, _, hx⟩ := h3 (by omega)
    have hs := hx i hin 1 _ rfl
    rw [fcAt_get hin] at hs
    clear hx h3 HCT hq h hr hi
    rw [Int.toNat_natCast]
    generalize (fcAt j.c i).says = y at hs
    go_enter Try.func49, Try.ntmps49
    go_wp2
    go_quiet ((go_at_call 66; exact Calls.quiet_of_same ((HC.out _).mono (fun _ _ h => ⟨h.1, h.2.symm⟩))))
    go_wp2
    go_ret
    exact ⟨by simp, BX.out.fr.drewN _⟩
end Go.Proofs.Ytfalhljidnpmgaa
