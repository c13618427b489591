/- Made: the rules that integers determine. No condition beside the bounds. -/
import Derived.Test.YtfalhljidnpmgaaD1
import Derived.Test.YtfalhljidnpmgaaP5
import Derived.Test.YtfalhljidnpmgaaR0
import Derived.Deep.DeepCutAuto
set_option linter.unusedVariables false
set_option linter.unusedSimpArgs false
namespace Go.Proofs.Ytfalhljidnpmgaa
open Go.RowKit Go.Proofs.Statute Go.Maps

def encA6 (x : A6) : List Value := [.int .i64 x.a, .int .i64 x.b, .int .i64 x.c, .int .i64 x.d, .int .i64 x.e, .int .i64 x.f]
def encA3 (x : A3) : List Value := [.int .i64 x.a, .int .i64 x.b, .int .i64 x.c]
structure NW (K : Nat → Prop) (w : World) (cv rv fv : Value) (x : Nums) : Prop where
  hc : Reads K w 6 encA6 cv x.cs
  hr : Reads K w 3 encA3 rv x.rs
  hf : Reads K w 6 encA6 fv x.fs
  bc : ∀ y ∈ x.cs, I64 y.a ∧ I64 y.b ∧ I64 y.c ∧ I64 y.d ∧ I64 y.e ∧ I64 y.f
  br : ∀ y ∈ x.rs, I64 y.a ∧ I64 y.b ∧ I64 y.c
  bf : ∀ y ∈ x.fs, I64 y.a ∧ I64 y.b ∧ I64 y.c ∧ I64 y.d ∧ I64 y.e ∧ I64 y.f
theorem NW.fr {K S : Nat → Prop} {w w' : World} {cv rv fv : Value} {x : Nums} (h : NW K w cv rv fv x) (hf : Fr S w w') (hK : ∀ k, K k → ¬ S k) : NW K w' cv rv fv x :=
  { h with hc := h.hc.fr hf hK, hr := h.hr.fr hf hK, hf := h.hf.fr hf hK }
theorem NW.mono {K K' : Nat → Prop} {w : World} {cv rv fv : Value} {x : Nums} (h : NW K w cv rv fv x) (hK : ∀ k, k < w.heap.size → K k → K' k) : NW K' w cv rv fv x :=
  { h with hc := h.hc.mono hK, hr := h.hr.mono hK, hf := h.hf.mono hK }
theorem reads_six {K : Nat → Prop} {w : World} {a : Option Addr} {n c : Nat} {xs : List A6} (h : Reads K w 6 encA6 (.slice a n c) xs) (i : Nat) (hi : i < xs.length) : ∃ b o, a = some ⟨b, o, none⟩ ∧ b < w.heap.size ∧ w.cell? ⟨b, o + i * 6, none⟩ = some (.int .i64 xs[i].a) ∧ w.cell? ⟨b, o + i * 6 + 1, none⟩ = some (.int .i64 xs[i].b) ∧ w.cell? ⟨b, o + i * 6 + 2, none⟩ = some (.int .i64 xs[i].c) ∧ w.cell? ⟨b, o + i * 6 + 3, none⟩ = some (.int .i64 xs[i].d) ∧ w.cell? ⟨b, o + i * 6 + 4, none⟩ = some (.int .i64 xs[i].e) ∧ w.cell? ⟨b, o + i * 6 + 5, none⟩ = some (.int .i64 xs[i].f) := by
  obtain ⟨a', c', e, _, _, h3⟩ := h
  injection e with e1 _ _
  subst e1
  obtain ⟨b, o, ea, _, hb, hx⟩ := h3 (by omega)
  exact ⟨b, o, ea, hb, hx i hi 0 _ rfl, hx i hi 1 _ rfl, hx i hi 2 _ rfl, hx i hi 3 _ rfl, hx i hi 4 _ rfl, hx i hi 5 _ rfl⟩
theorem reads_three {K : Nat → Prop} {w : World} {a : Option Addr} {n c : Nat} {xs : List A3} (h : Reads K w 3 encA3 (.slice a n c) xs) (i : Nat) (hi : i < xs.length) : ∃ b o, a = some ⟨b, o, none⟩ ∧ b < w.heap.size ∧ w.cell? ⟨b, o + i * 3, none⟩ = some (.int .i64 xs[i].a) ∧ w.cell? ⟨b, o + i * 3 + 1, none⟩ = some (.int .i64 xs[i].b) ∧ w.cell? ⟨b, o + i * 3 + 2, none⟩ = some (.int .i64 xs[i].c) := by
  obtain ⟨a', c', e, _, _, h3⟩ := h
  injection e with e1 _ _
  subst e1
  obtain ⟨b, o, ea, _, hb, hx⟩ := h3 (by omega)
  exact ⟨b, o, ea, hb, hx i hi 0 _ rfl, hx i hi 1 _ rfl, hx i hi 2 _ rfl⟩
def Made (w : World) (x : Nums) (e : Ending) (w' : World) : Prop :=
  ∃ a b c n1 n2 n3 c1 c2 c3 ms N, e = .returned (.agg #[.slice a n1 c1, .slice b n2 c2, .slice c n3 c3]) ∧ OB w.heap.size N w' (.slice a n1 c1) (.slice b n2 c2) (.slice c n3 c3) ms (made x) ∧ Fr (fun _ => False) w w'
set_option maxRecDepth 100000 in
set_option maxHeartbeats 12800000 in
theorem made_any {K : Nat → Prop} {w : World} {cv rv fv : Value} {x : Nums} (h : NW K w cv rv fv x) :
    Calls Try.prog 10 #[.agg #[cv, rv, fv]] w (Made w x) := by
  have HN := hid (h.mono (K' := fun k => k < w.heap.size) (fun k hk _ => hk))
  obtain ⟨a1, c1, rfl, lc, lc2, _⟩ := h.hc
  obtain ⟨a2, c2, rfl, lr, lr2, _⟩ := h.hr
  obtain ⟨a3, c3, rfl, lf, lf2, _⟩ := h.hf
  clear h
  have hlc : x.cs.length ≤ 9223372036854775807 := by omega
  have hlr : x.rs.length ≤ 9223372036854775807 := by omega
  have hlf : x.fs.length ≤ 9223372036854775807 := by omega
  clear lc lc2 lr lr2 lf lf2
  go_enter Try.func10, Try.ntmps10
  go_upto_region 2 with (fail)
  have z0 := row_cell (w := ((w.alloc (.cells #[.slice a1 x.cs.length c1, .slice a2 x.rs.length c2, .slice a3 x.fs.length c3] 25)).alloc (.cells #[.slice none 0 0, .slice none 0 0, .slice none 0 0] 34)).alloc (.cells #[.slice none 0 0, .slice none 0 0, .slice none 0 0] 34)) (g := w.heap.size) (l := [.slice a1 x.cs.length c1, .slice a2 x.rs.length c2, .slice a3 x.fs.length c3]) (t := 25) ((Below.heap_alloc _ _ _ (by simp <;> omega)).trans ((Below.heap_alloc _ _ _ (by simp <;> omega)).trans (heap_alloc_new w _)))
  have z1 : (((w.alloc (.cells #[.slice a1 x.cs.length c1, .slice a2 x.rs.length c2, .slice a3 x.fs.length c3] 25)).alloc (.cells #[.slice none 0 0, .slice none 0 0, .slice none 0 0] 34)).alloc (.cells #[.slice none 0 0, .slice none 0 0, .slice none 0 0] 34)).heap[w.heap.size + 1]? = some (.cells #[.slice none 0 0, .slice none 0 0, .slice none 0 0] 34 (0, 0)) := (Below.heap_alloc _ _ _ (by simp)).trans (by have := heap_alloc_new (w.alloc (.cells #[.slice a1 x.cs.length c1, .slice a2 x.rs.length c2, .slice a3 x.fs.length c3] 25)) (.cells #[.slice none 0 0, .slice none 0 0, .slice none 0 0] 34); rw [show (w.alloc (.cells #[.slice a1 x.cs.length c1, .slice a2 x.rs.length c2, .slice a3 x.fs.length c3] 25)).heap.size = w.heap.size + 1 by simp] at this; exact this)
  have z2 : (((w.alloc (.cells #[.slice a1 x.cs.length c1, .slice a2 x.rs.length c2, .slice a3 x.fs.length c3] 25)).alloc (.cells #[.slice none 0 0, .slice none 0 0, .slice none 0 0] 34)).alloc (.cells #[.slice none 0 0, .slice none 0 0, .slice none 0 0] 34)).heap[w.heap.size + 1 + 1]? = some (.cells #[.slice none 0 0, .slice none 0 0, .slice none 0 0] 34 (0, 0)) := (by have := heap_alloc_new ((w.alloc (.cells #[.slice a1 x.cs.length c1, .slice a2 x.rs.length c2, .slice a3 x.fs.length c3] 25)).alloc (.cells #[.slice none 0 0, .slice none 0 0, .slice none 0 0] 34)) (.cells #[.slice none 0 0, .slice none 0 0, .slice none 0 0] 34); rw [show ((w.alloc (.cells #[.slice a1 x.cs.length c1, .slice a2 x.rs.length c2, .slice a3 x.fs.length c3] 25)).alloc (.cells #[.slice none 0 0, .slice none 0 0, .slice none 0 0] 34)).heap.size = w.heap.size + 1 + 1 by simp] at this; exact this)
  have z3 : (((w.alloc (.cells #[.slice a1 x.cs.length c1, .slice a2 x.rs.length c2, .slice a3 x.fs.length c3] 25)).alloc (.cells #[.slice none 0 0, .slice none 0 0, .slice none 0 0] 34)).alloc (.cells #[.slice none 0 0, .slice none 0 0, .slice none 0 0] 34)).heap.size = w.heap.size + 3 := by simp
  have F0 : Hid (Fr (fun _ => False) w (((w.alloc (.cells #[.slice a1 x.cs.length c1, .slice a2 x.rs.length c2, .slice a3 x.fs.length c3] 25)).alloc (.cells #[.slice none 0 0, .slice none 0 0, .slice none 0 0] 34)).alloc (.cells #[.slice none 0 0, .slice none 0 0, .slice none 0 0] 34))) := hid ((((Fr.refl _ _).alloc _).alloc _).alloc _)
  generalize ((w.alloc (.cells #[.slice a1 x.cs.length c1, .slice a2 x.rs.length c2, .slice a3 x.fs.length c3] 25)).alloc (.cells #[.slice none 0 0, .slice none 0 0, .slice none 0 0] 34)).alloc (.cells #[.slice none 0 0, .slice none 0 0, .slice none 0 0] 34) = W at z0 z1 z2 z3 F0 ⊢
  have Z1 := hid z1
  have Z2 := hid z2
  clear z1 z2
  have Y0 := hid (z0 0)
  have Y1 := hid (z0 1)
  have Y2 := hid (z0 2)
  simp only [List.getElem?_cons_zero, List.getElem?_cons_succ] at Y0 Y1 Y2
  clear z0
  iterate 3 (first | go_values | go_skip | go_guarded | go_step)
  rename_i kA hA kB hB kC hC
  refine hC _ _ ?_
  show kB _ _
  clear hC kC
  refine hB _ _ ?_
  clear hB kB
  go_cut [4] (fun _ wc => ∃ (a : Option Addr) (cc : Nat) (ms : List CM) (N : Nat → Prop), Hid (OB W.heap.size N wc (.slice a (madeC x).length cc) (.slice none 0 0) (.slice none 0 0) ms ⟨madeC x, [], []⟩) ∧ Hid (wc.heap[w.heap.size + 1 + 1]? = some (.cells #[.slice a (madeC x).length cc, .slice none 0 0, .slice none 0 0] 34 (0, 0))) ∧ Hid (Fr (fun i => i = w.heap.size + 1 + 1) W wc))
  case first =>
    go_wp2
    go_loopw [4] (fun s4 wr => ∃ (k : Nat) (a : Option Addr) (cc : Nat) (ms : List CM) (N : Nat → Prop), k ≤ 8 ∧ k ≤ x.cs.length ∧ s4 = .int .i64 k ∧ Hid (OB W.heap.size N wr (.slice a k cc) (.slice none 0 0) (.slice none 0 0) ms ⟨(x.cs.take k).map madeCl, [], []⟩) ∧ Hid (wr.heap[w.heap.size + 1 + 1]? = some (.cells #[.slice a k cc, .slice none 0 0, .slice none 0 0] 34 (0, 0))) ∧ Hid (Fr (fun i => i = w.heap.size + 1 + 1) W wr)) (fun s4 _ => 8 - (intOf s4).toNat)
    case atStart => exact ⟨0, none, 0, [], fun _ => False, by omega, by omega, rfl, hid (OB.start _ _), Z2, hid (Fr.refl _ _)⟩
    case round =>
      obtain ⟨k, a, cc, ms, N, hk8, hkl, rfl, hO, hC, hF⟩ := hrel
      have z4 := hF.out.size
      have x0 := hF.out.cells1 (by omega) Y0.out
      have x1 := hF.out.cells1 (by omega) Y1.out
      have x2 := hF.out.cells1 (by omega) Y2.out
      by_cases hgo : k < x.cs.length ∧ k < 8
      · obtain ⟨hl, h8⟩ := hgo
        have hn : ((x.cs.take k).map madeCl).length = k := by simp; omega
        obtain ⟨b, o, rfl, hb, d0, d1, d2, d3, d4, d5⟩ := reads_six ((HN.out.hc.fr F0.out (fun _ _ e => e)).fr hF.out (fun _ hk e => by omega)) k hl
        have hy := HN.out.bc x.cs[k] (List.getElem_mem hl)
        have HUP : Hid ((x.cs.take (k + 1)).map madeCl = (x.cs.take k).map madeCl ++ [madeCl x.cs[k]]) := hid (by rw [List.take_succ_eq_append_getElem hl, List.map_append]; rfl)
        generalize x.cs[k] = y at d0 d1 d2 d3 d4 d5 hy HUP
        obtain ⟨ya, yb, yc, yd, ye, yf⟩ := y
        dsimp only at d0 d1 d2 d3 d4 d5 hy
        obtain ⟨ia, ib, ic, id, ie, if_⟩ := hy
        have P1 := hid (pick27 yd 8 · id (by omega) (by omega))
        have P2 := hid (pick27 ya 80 · ia (by omega) (by omega))
        have P3 := hid (part_any yb yc · ib ic)
        have hg := pickF_in yd 8 (by omega)
        have HM : Hid (madeCl ⟨ya, yb, yc, yd, ye, yf⟩ = ⟨pickF ya 80, pickF yb 50, partTo yb yc, bitsOf ye (pickF yd 8), bitsOf yf (pickF yd 8), pickF yd 8⟩) := hid rfl
        obtain ⟨G, hG⟩ := Int.eq_ofNat_of_zero_le hg.1
        rw [hG] at P1 HM hg
        have P4 := hid (bits_any ye G · ie (by omega))
        have P5 := hid (bits_any yf G · if_ (by omega))
        rw [HM.out] at HUP
        have HB : Hid (∀ e : Int, bitsOf e (G : Int) = bitsAt (pickF e 4096).toNat G) := hid (fun e => by unfold bitsOf; rw [Int.toNat_natCast])
        rw [HB.out, HB.out] at HUP
        have hl3 := bitsAt_le (pickF ye 4096).toNat G
        have hl4 := bitsAt_le (pickF yf 4096).toNat G
        generalize bitsAt (pickF ye 4096).toNat G = be at HUP P4 hl3
        generalize bitsAt (pickF yf 4096).toNat G = bf at HUP P5 hl4
        generalize pickF ya 80 = ga at HUP P2
        generalize pickF yb 50 = gb at HUP P3
        generalize partTo yb yc = gt at HUP P3
        clear HM HB hG ia ib ic id ie if_
        go_wp2_with (first | (go_at_call 27; refine (P1.out _).mono ?_; rintro e w1 ⟨rfl, rfl⟩))
        have s0 := row_cell (w := wr.alloc (.cells #[.int .i64 ya, .int .i64 yb, .int .i64 yc, .int .i64 yd, .int .i64 ye, .int .i64 yf] 74)) (g := wr.heap.size) (l := [.int .i64 ya, .int .i64 yb, .int .i64 yc, .int .i64 yd, .int .i64 ye, .int .i64 yf]) (t := 74) (heap_alloc_new wr _)
        have s_0 := s0 0
        have s_1 := s0 1
        have s_2 := s0 2
        have s_3 := s0 3
        have s_4 := s0 4
        have s_5 := s0 5
        simp only [List.getElem?_cons_zero, List.getElem?_cons_succ] at s_0 s_1 s_2 s_3 s_4 s_5
        have HLT : Hid (∀ i, (Value.slice a k cc).ownBlock = some i → i < wr.heap.size) := hid (fun i e => (own_base hO.out.oc i e).2)
        have HOB := hid (hO.out.quiet (((Fr.refl (fun _ => False) wr).alloc (.cells #[.int .i64 ya, .int .i64 yb, .int .i64 yc, .int .i64 yd, .int .i64 ye, .int .i64 yf] 74)).drew))
        have HFF := hid (hF.out.alloc (.cells #[.int .i64 ya, .int .i64 yb, .int .i64 yc, .int .i64 yd, .int .i64 ye, .int .i64 yf] 74)).drew
        have HCC : Hid ((wr.alloc (.cells #[.int .i64 ya, .int .i64 yb, .int .i64 yc, .int .i64 yd, .int .i64 ye, .int .i64 yf] 74)).drew.heap[w.heap.size + 1 + 1]? = _) := hid ((Below.heap_alloc _ _ _ (row_lt hC.out)).trans hC.out)
        have hne : w.heap.size + 1 + 1 ≠ wr.heap.size := by omega
        have cc0 := row_cell (l := [_, _, _]) HCC.out 0
        have cc1 := row_cell (l := [_, _, _]) HCC.out 1
        have cc2 := row_cell (l := [_, _, _]) HCC.out 2
        simp only [List.getElem?_cons_zero, List.getElem?_cons_succ] at cc0 cc1 cc2
        change World.cell? (wr.alloc (.cells #[.int .i64 ya, .int .i64 yb, .int .i64 yc, .int .i64 yd, .int .i64 ye, .int .i64 yf] 74)) _ = _ at cc0 cc1 cc2
        clear s0 x0 x1 x2 hC hF hO
        generalize wr.alloc (.cells #[.int .i64 ya, .int .i64 yb, .int .i64 yc, .int .i64 yd, .int .i64 ye, .int .i64 yf] 74) = W1 at *
        refine wp_region_T (fun w' : World => w'.cell? ⟨w.heap.size + 1 + 1, 0, none⟩ = some (.slice a k cc) ∧ w'.cell? ⟨wr.heap.size, 0, none⟩ = some (.int .i64 ya) ∧ w'.cell? ⟨wr.heap.size, 1, none⟩ = some (.int .i64 yb) ∧ w'.cell? ⟨wr.heap.size, 2, none⟩ = some (.int .i64 yc) ∧ w'.cell? ⟨wr.heap.size, 4, none⟩ = some (.int .i64 ye) ∧ w'.cell? ⟨wr.heap.size, 5, none⟩ = some (.int .i64 yf)) 23 (by kernel_rfl) (by (try dsimp only); (first | assumption | exact hS5 | exact hS2 | go_keep)) (fun hHeld => ?_)
        try dsimp only at hHeld
        refine wpAnyT_take 0 (v := ?_) rfl (by kernel_rfl) (fun _ _ _ h => h) ⟨by rfl, ?_⟩ (by assumption) ?_
        rotate_left; · (intro w hSw; (try dsimp only at hSw); go_simp <;> with_reducible rfl)
        try simp only [Act.put, List.setIfInBounds_toArray, List.set_cons_zero, List.set_cons_succ]
        refine wpAnyT_take 1 (v := ?_) rfl (by kernel_rfl) (fun _ _ _ h => h) ⟨by rfl, ?_⟩ (by assumption) ?_
        rotate_left; · (intro w hSw; (try dsimp only at hSw); go_simp <;> with_reducible rfl)
        try simp only [Act.put, List.setIfInBounds_toArray, List.set_cons_zero, List.set_cons_succ]
        refine wpAnyT_take 2 (v := ?_) rfl (by kernel_rfl) (fun _ _ _ h => h) ⟨by rfl, ?_⟩ (by assumption) ?_
        rotate_left; · (intro w hSw; (try dsimp only at hSw); go_simp <;> with_reducible rfl)
        try simp only [Act.put, List.setIfInBounds_toArray, List.set_cons_zero, List.set_cons_succ]
        refine wpAnyT_take 3 (v := ?_) rfl (by kernel_rfl) (fun _ _ _ h => h) ⟨by rfl, ?_⟩ (by assumption) ?_
        rotate_left; · (intro w hSw; (try dsimp only at hSw); go_simp <;> with_reducible rfl)
        try simp only [Act.put, List.setIfInBounds_toArray, List.set_cons_zero, List.set_cons_succ]
        refine wpAnyT_take 5 (v := ?_) rfl (by kernel_rfl) (fun _ _ _ h => h) ⟨by rfl, ?_⟩ (by assumption) ?_
        rotate_left; · (intro w hSw; (try dsimp only at hSw); go_simp <;> with_reducible rfl)
        try simp only [Act.put, List.setIfInBounds_toArray, List.set_cons_zero, List.set_cons_succ]
        refine wpAnyT_take 6 (v := ?_) rfl (by kernel_rfl) (fun _ _ _ h => h) ⟨by rfl, ?_⟩ (by assumption) ?_
        rotate_left; · (intro w hSw; (try dsimp only at hSw); go_simp <;> with_reducible rfl)
        try simp only [Act.put, List.setIfInBounds_toArray, List.set_cons_zero, List.set_cons_succ]
        refine wpAnyT_take 7 (v := ?_) rfl (by kernel_rfl) (fun _ _ _ h => h) ⟨by rfl, ?_⟩ (by assumption) ?_
        rotate_left; · (intro w hSw; (try dsimp only at hSw); go_simp <;> with_reducible rfl)
        try simp only [Act.put, List.setIfInBounds_toArray, List.set_cons_zero, List.set_cons_succ]
        refine wpAnyT_take 8 (v := ?_) rfl (by kernel_rfl) (fun _ _ _ h => h) ⟨by rfl, ?_⟩ (by assumption) ?_
        rotate_left; · (intro w hSw; (try dsimp only at hSw); go_simp <;> with_reducible rfl)
        try simp only [Act.put, List.setIfInBounds_toArray, List.set_cons_zero, List.set_cons_succ]
        refine wpAnyT_take 10 (v := ?_) rfl (by kernel_rfl) (fun _ _ _ h => h) ⟨by rfl, ?_⟩ (by assumption) ?_
        rotate_left; · (intro w hSw; (try dsimp only at hSw); go_simp <;> with_reducible rfl)
        try simp only [Act.put, List.setIfInBounds_toArray, List.set_cons_zero, List.set_cons_succ]
        refine wpAnyT_take 11 (v := ?_) rfl (by kernel_rfl) (fun _ _ _ h => h) ⟨by rfl, ?_⟩ (by assumption) ?_
        rotate_left; · (intro w hSw; (try dsimp only at hSw); go_simp <;> with_reducible rfl)
        try simp only [Act.put, List.setIfInBounds_toArray, List.set_cons_zero, List.set_cons_succ]
        refine wpAnyT_take 12 (v := ?_) rfl (by kernel_rfl) (fun _ _ _ h => h) ⟨by rfl, ?_⟩ (by assumption) ?_
        rotate_left; · (intro w hSw; (try dsimp only at hSw); go_simp <;> with_reducible rfl)
        try simp only [Act.put, List.setIfInBounds_toArray, List.set_cons_zero, List.set_cons_succ]
        refine wpAnyT_take 14 (v := ?_) rfl (by kernel_rfl) (fun _ _ _ h => h) ⟨by rfl, ?_⟩ (by assumption) ?_
        rotate_left; · (intro w hSw; (try dsimp only at hSw); go_simp <;> with_reducible rfl)
        try simp only [Act.put, List.setIfInBounds_toArray, List.set_cons_zero, List.set_cons_succ]
        refine wpAnyT_take 15 (v := ?_) rfl (by kernel_rfl) (fun _ _ _ h => h) ⟨by rfl, ?_⟩ (by assumption) ?_
        rotate_left; · (intro w hSw; (try dsimp only at hSw); go_simp <;> with_reducible rfl)
        try simp only [Act.put, List.setIfInBounds_toArray, List.set_cons_zero, List.set_cons_succ]
        refine wpAnyT_take 16 (v := ?_) rfl (by kernel_rfl) (fun _ _ _ h => h) ⟨by rfl, ?_⟩ (by assumption) ?_
        rotate_left; · (intro w hSw; (try dsimp only at hSw); go_simp <;> with_reducible rfl)
        try simp only [Act.put, List.setIfInBounds_toArray, List.set_cons_zero, List.set_cons_succ]
        refine wpAnyT_take 18 (v := ?_) rfl (by kernel_rfl) (fun _ _ _ h => h) ⟨by rfl, ?_⟩ (by assumption) ?_
        rotate_left; · (intro w hSw; (try dsimp only at hSw); go_simp <;> with_reducible rfl)
        try simp only [Act.put, List.setIfInBounds_toArray, List.set_cons_zero, List.set_cons_succ]
        refine wpAnyT_head 4 rfl (by kernel_rfl) (fun K hK => ?_)
        go_simp
        go_wp2_with (go_at_call 27; refine (P2.out _).mono ?_; rintro e w2 ⟨rfl, rfl⟩)
        refine hK.out _ _ ?_ (fun hHeld => ?_)
        · (try dsimp only); (first | assumption | exact hS5 | exact hS2 | go_keep)
        try dsimp only at hHeld
        clear hK K
        refine wpAnyT_head 9 rfl (by kernel_rfl) (fun K hK => ?_)
        go_simp
        go_wp2_with (go_at_call 28; refine (P3.out _).mono ?_; rintro e w2 ⟨rfl, f2⟩; obtain ⟨q0, q1, q2, q3, q4, q5⟩ := hHeld; have hS2 := (And.intro (f2.cells1 (fun e => e) q0) (And.intro (f2.cells1 (fun e => e) q1) (And.intro (f2.cells1 (fun e => e) q2) (And.intro (f2.cells1 (fun e => e) q3) (And.intro (f2.cells1 (fun e => e) q4) (f2.cells1 (fun e => e) q5)))))); have HOB := hid (HOB.out.quiet f2); have HFF := hid (HFF.out.trans f2.non); have HCC := hid ((f2.block _ (row_lt HCC.out) (fun e => e)).trans HCC.out); clear f2)
        refine hK.out _ _ ?_ (fun hHeld => ?_)
        · (try dsimp only); (first | assumption | exact hS5 | exact hS2 | go_keep)
        try dsimp only at hHeld
        clear hK K
        refine wpAnyT_head 13 rfl (by kernel_rfl) (fun K hK => ?_)
        go_simp
        go_wp2_with (go_at_call 29; refine (P4.out _).mono ?_; rintro e w3 ⟨v1, rfl, o3, f2⟩; obtain ⟨q0, q1, q2, q3, q4, q5⟩ := hHeld; have hS2 := (And.intro (f2.cells1 (fun e => e) q0) (And.intro (f2.cells1 (fun e => e) q1) (And.intro (f2.cells1 (fun e => e) q2) (And.intro (f2.cells1 (fun e => e) q3) (And.intro (f2.cells1 (fun e => e) q4) (f2.cells1 (fun e => e) q5)))))); have HOB := hid (HOB.out.quiet f2); have HFF := hid (HFF.out.trans f2.non); have HCC := hid ((f2.block _ (row_lt HCC.out) (fun e => e)).trans HCC.out); have O3 := hid (own_zero o3 (Nat.zero_le _)); obtain ⟨s1, t1, rfl, _, _⟩ := own_shape o3; clear f2 o3)
        refine hK.out _ _ ?_ (fun hHeld => ?_)
        · (try dsimp only); (first | assumption | exact hS5 | exact hS2 | go_keep)
        try dsimp only at hHeld
        clear hK K
        refine wpAnyT_head 17 rfl (by kernel_rfl) (fun K hK => ?_)
        go_simp
        go_wp2_with (go_at_call 29; refine (P5.out _).mono ?_; rintro e w4 ⟨v2, rfl, o4, f2⟩; obtain ⟨q0, q1, q2, q3, q4, q5⟩ := hHeld; have hS2 := (And.intro (f2.cells1 (fun e => e) q0) (And.intro (f2.cells1 (fun e => e) q1) (And.intro (f2.cells1 (fun e => e) q2) (And.intro (f2.cells1 (fun e => e) q3) (And.intro (f2.cells1 (fun e => e) q4) (f2.cells1 (fun e => e) q5)))))); have HOB := hid (HOB.out.quiet f2); have HFF := hid (HFF.out.trans f2.non); have HCC := hid ((f2.block _ (row_lt HCC.out) (fun e => e)).trans HCC.out); have O3 := hid (own_fr O3.out f2 (fun _ _ e => e)); have O4 := hid (own_zero o4 (Nat.zero_le _)); obtain ⟨s2, t2, rfl, _, _⟩ := own_shape o4; clear f2 o4)
        refine hK.out _ _ ?_ (fun hHeld => ?_)
        · (try dsimp only); (first | assumption | exact hS5 | exact hS2 | go_keep)
        try dsimp only at hHeld
        clear hK K
        refine wpAnyT_take 19 (v := ?_) rfl (by kernel_rfl) (fun _ _ _ h => h) ⟨by rfl, ?_⟩ (by assumption) ?_
        rotate_left; · (intro w hSw; (try dsimp only at hSw); go_simp <;> with_reducible rfl)
        try simp only [Act.put, List.setIfInBounds_toArray, List.set_cons_zero, List.set_cons_succ]
        refine wpAnyT_head 20 rfl (by kernel_rfl) (fun K hK => ?_)
        go_simp
        refine hK.out _ _ ?_ (fun hHeld => ?_)
        · (try dsimp only); (first | assumption | exact hS5 | exact hS2 | go_keep)
        try dsimp only at hHeld
        clear hK K
        refine wpAnyT_head 21 rfl (by kernel_rfl) (fun K hK => ?_)
        (refine step_of rfl (appendC HOB.out hn ?_ ?_ ga gb gt G be bf (.slice s1 be.length t1) (.slice s2 bf.length t2) rfl rfl (.tmp 31) (.tmp 50) rfl ?_ ?_ ?_); (have := HFF.out.size; omega); omega; rfl; rfl; intro g c2 w5 h5 f5; have C5 := ((f5.block _ (row_lt HCC.out) (fun e => HOB.out.ownC HCC.out (by decide) e)).trans HCC.out); have cc5 := row_cell (l := [_, _, _]) C5 0; have cf5 := row_free C5 0; simp only [List.getElem?_cons_zero] at cc5; obtain ⟨q0, q1, q2, q3, q4, q5⟩ := hS2; have hS5 := (And.intro (f5.cells1 (fun e => HOB.out.ownC HCC.out (by decide) e) q0) (And.intro (f5.cells1 (fun e => absurd (HLT.out _ e) (Nat.lt_irrefl _)) q1) (And.intro (f5.cells1 (fun e => absurd (HLT.out _ e) (Nat.lt_irrefl _)) q2) (And.intro (f5.cells1 (fun e => absurd (HLT.out _ e) (Nat.lt_irrefl _)) q3) (And.intro (f5.cells1 (fun e => absurd (HLT.out _ e) (Nat.lt_irrefl _)) q4) (f5.cells1 (fun e => absurd (HLT.out _ e) (Nat.lt_irrefl _)) q5)))))); have C5 := hid C5; have H5 := hid h5; have F5 := hid f5; clear h5 f5)
        refine hK.out _ _ ?_ (fun hHeld => ?_)
        · (try dsimp only); (first | assumption | exact hS5 | exact hS2 | go_keep)
        try dsimp only at hHeld
        clear hK K
        refine wpAnyT_take 22 (v := ?_) rfl (by kernel_rfl) (fun _ _ _ h => h) ⟨by rfl, ?_⟩ (by assumption) ?_
        rotate_left; · (intro w hSw; (try dsimp only at hSw); go_simp <;> with_reducible rfl)
        try simp only [Act.put, List.setIfInBounds_toArray, List.set_cons_zero, List.set_cons_succ]
        refine wpAnyT_tail 23 rfl (by kernel_rfl) (by kernel_rfl) (fun K hK => ?_)
        go_simp
        refine hK.out _ _ ?_
        clear hK K
        refine wpAnyT_done (by kernel_rfl) ?_
        have HNT : Hid (∀ i, (N i ∨ (Value.slice s1 be.length t1).ownBlock = some i ∨ (Value.slice s2 bf.length t2).ownBlock = some i) → ∃ cs, w4.heap[i]? = some (.cells cs 3 (0, 0))) := hid (fun i e => by
          rcases e with e | e | e
          · exact HOB.out.nt i e
          · exact (own_type O3.out e).2
          · exact (own_type O4.out e).2)
        have OB5 := hid (HOB.out.push F5.out ⟨⟨ga, gb, gt, be, bf, G⟩, .slice s1 be.length t1, .slice s2 bf.length t2⟩ (N' := fun i => N i ∨ (Value.slice s1 be.length t1).ownBlock = some i ∨ (Value.slice s2 bf.length t2).ownBlock = some i) (fun _ e => .inl e) (reads_ints O3.out rfl (fun i e => .inr (.inl e))) (reads_ints O4.out rfl (fun i e => .inr (.inr e))) HNT.out hn H5.out)
        have FF5 := hid (HFF.out.then F5.out (fun i hi e => absurd (own_base HOB.out.oc i e).1 (by omega)))
        go_wp2
        go_roundw
        case rel => exact ⟨k + 1, some ⟨g, 0, none⟩, c2, _, _, by omega, by omega, by go_num, hid (by rw [HUP.out]; exact OB5.out.set34 C5.out _), hid (set34 C5.out _).1, hid (FF5.out.setCell (p := ⟨w.heap.size + 1 + 1, 0, none⟩) (fun _ => rfl) _)⟩
        case measure => simp [intOf]; omega
      · have HST : Hid ((x.cs.take k).map madeCl = madeC x) := hid (by
          unfold madeC
          rcases Nat.lt_or_ge k 8 with h | h
          · rw [List.take_of_length_le (by omega), List.take_of_length_le (by omega)]
          · rw [show k = 8 by omega])
        have HLN : Hid ((madeC x).length = k) := hid (by rw [← HST.out]; simp; omega)
        go_wp2
        all_goals
          go_meet
          case rel => exact ⟨a, cc, ms, N, by rw [HLN.out, ← HST.out]; exact hO, by rw [HLN.out]; exact hC, hF⟩
  case rest =>
    obtain ⟨a, cc, ms, N, hO, hC, hF⟩ := hcut
    have hn8 := madeC_len x
    go_upto_region 8 with (fail)
    iterate 3 (first | go_values | go_skip | go_guarded | go_step)
    rename_i kA hA kB hB kC hC
    refine hC _ _ ?_
    show kB _ _
    clear hC kC
    refine hB _ _ ?_
    clear hB kB
    go_cut [7] (fun _ wc => ∃ (b : Option Addr) (c4 : Nat) (N : Nat → Prop), Hid (OB W.heap.size N wc (.slice a (madeC x).length cc) (.slice b (made x).rps.length c4) (.slice none 0 0) ms ⟨madeC x, (made x).rps, []⟩) ∧ Hid (wc.heap[w.heap.size + 1 + 1]? = some (.cells #[.slice a (madeC x).length cc, .slice b (made x).rps.length c4, .slice none 0 0] 34 (0, 0))) ∧ Hid (Fr (fun i => i = w.heap.size + 1 + 1) W wc))
    case first =>
      go_wp2
      go_loopw [7] (fun s7 wr => ∃ (k : Nat) (b : Option Addr) (c4 : Nat), k ≤ 3 ∧ k ≤ x.rs.length ∧ ((madeC x).length = 0 → k = 0) ∧ s7 = .int .i64 k ∧ Hid (OB W.heap.size N wr (.slice a (madeC x).length cc) (.slice b k c4) (.slice none 0 0) ms ⟨madeC x, (x.rs.take k).map (madeRp (madeC x).length), []⟩) ∧ Hid (wr.heap[w.heap.size + 1 + 1]? = some (.cells #[.slice a (madeC x).length cc, .slice b k c4, .slice none 0 0] 34 (0, 0))) ∧ Hid (Fr (fun i => i = w.heap.size + 1 + 1) W wr)) (fun s7 _ => 3 - (intOf s7).toNat)
      case atStart => exact ⟨0, none, 0, by omega, by omega, fun _ => rfl, rfl, hO, hC, hF⟩
      case round =>
        clear hO hC hF
        obtain ⟨k, b4, c4, hk8, hkl, hk0, rfl, hO, hC, hF⟩ := hrel
        have z4 := hF.out.size
        have x0 := hF.out.cells1 (by omega) Y0.out
        have x1 := hF.out.cells1 (by omega) Y1.out
        have x2 := hF.out.cells1 (by omega) Y2.out
        have cc0 := row_cell (l := [_, _, _]) hC.out 0
        have cc1 := row_cell (l := [_, _, _]) hC.out 1
        have cc2 := row_cell (l := [_, _, _]) hC.out 2
        simp only [List.getElem?_cons_zero, List.getElem?_cons_succ] at cc0 cc1 cc2
        by_cases hgo : k < x.rs.length ∧ k < 3 ∧ 0 < (madeC x).length
        · obtain ⟨hl, h8, hpos⟩ := hgo
          have hn : ((x.rs.take k).map (madeRp (madeC x).length)).length = k := by simp; omega
          obtain ⟨b, o, rfl, hb, d0, d1, d2⟩ := reads_three ((HN.out.hr.fr F0.out (fun _ _ e => e)).fr hF.out (fun _ hk e => by omega)) k hl
          have hy := HN.out.br x.rs[k] (List.getElem_mem hl)
          have HUP : Hid ((x.rs.take (k + 1)).map (madeRp (madeC x).length) = (x.rs.take k).map (madeRp (madeC x).length) ++ [madeRp (madeC x).length x.rs[k]]) := hid (by rw [List.take_succ_eq_append_getElem hl, List.map_append]; rfl)
          generalize x.rs[k] = y at d0 d1 d2 hy HUP
          obtain ⟨ya, yb, yc⟩ := y
          dsimp only at d0 d1 d2 hy
          obtain ⟨ia, ib, ic⟩ := hy
          have P1 := hid (pick27 ya (madeC x).length · ia (by omega) (by omega))
          have P2 := hid (pick27 yb 100 · ib (by omega) (by omega))
          have P3 := hid (pick27 yc 100 · ic (by omega) (by omega))
          have HM : Hid (madeRp (madeC x).length ⟨ya, yb, yc⟩ = ⟨pickF ya (madeC x).length, pickF yb 100, pickF yc 100⟩) := hid rfl
          rw [HM.out] at HUP
          generalize pickF ya (madeC x).length = ga at HUP P1
          generalize pickF yb 100 = gb at HUP P2
          generalize pickF yc 100 = gc at HUP P3
          clear HM ia ib ic
          go_wp2_with (fail)
          have s0 := row_cell (w := wr.alloc (.cells #[.int .i64 ya, .int .i64 yb, .int .i64 yc] 77)) (g := wr.heap.size) (l := [.int .i64 ya, .int .i64 yb, .int .i64 yc]) (t := 77) (heap_alloc_new wr _)
          have s_0 := s0 0
          have s_1 := s0 1
          have s_2 := s0 2
          simp only [List.getElem?_cons_zero, List.getElem?_cons_succ] at s_0 s_1 s_2
          have HLT : Hid (∀ i, (Value.slice b4 k c4).ownBlock = some i → i < wr.heap.size) := hid (fun i e => (own_base hO.out.or i e).2)
          clear cc0 cc1 cc2
          have HOB := hid (hO.out.quiet (((Fr.refl (fun _ => False) wr).alloc (.cells #[.int .i64 ya, .int .i64 yb, .int .i64 yc] 77)).drew))
          have HFF := hid (hF.out.alloc (.cells #[.int .i64 ya, .int .i64 yb, .int .i64 yc] 77)).drew
          have HCC : Hid ((wr.alloc (.cells #[.int .i64 ya, .int .i64 yb, .int .i64 yc] 77)).drew.heap[w.heap.size + 1 + 1]? = _) := hid ((Below.heap_alloc _ _ _ (row_lt hC.out)).trans hC.out)
          have hne : w.heap.size + 1 + 1 ≠ wr.heap.size := by omega
          have cc0 := row_cell (l := [_, _, _]) HCC.out 0
          have cc1 := row_cell (l := [_, _, _]) HCC.out 1
          have cc2 := row_cell (l := [_, _, _]) HCC.out 2
          simp only [List.getElem?_cons_zero, List.getElem?_cons_succ] at cc0 cc1 cc2
          change World.cell? (wr.alloc (.cells #[.int .i64 ya, .int .i64 yb, .int .i64 yc] 77)) _ = _ at cc0 cc1 cc2
          clear s0 x0 x1 x2 hC hF hO
          generalize wr.alloc (.cells #[.int .i64 ya, .int .i64 yb, .int .i64 yc] 77) = W1 at *
          refine wp_region_T (fun w' : World => w'.cell? ⟨w.heap.size + 1 + 1, 0, none⟩ = some (.slice a (madeC x).length cc) ∧ w'.cell? ⟨w.heap.size + 1 + 1, 1, none⟩ = some (.slice b4 k c4) ∧ w'.cell? ⟨wr.heap.size, 0, none⟩ = some (.int .i64 ya) ∧ w'.cell? ⟨wr.heap.size, 1, none⟩ = some (.int .i64 yb) ∧ w'.cell? ⟨wr.heap.size, 2, none⟩ = some (.int .i64 yc)) 18 (by kernel_rfl) (by (try dsimp only); (first | assumption | exact hS5 | go_keep)) (fun hHeld => ?_)
          try dsimp only at hHeld
          have hHeldW := hHeld
          refine wpAnyT_take 0 (v := ?_) rfl (by kernel_rfl) (fun _ _ _ h => h) ⟨by rfl, ?_⟩ (by assumption) ?_
          rotate_left; · (intro w hSw; (try dsimp only at hSw); go_simp <;> with_reducible rfl)
          try simp only [Act.put, List.setIfInBounds_toArray, List.set_cons_zero, List.set_cons_succ]
          refine wpAnyT_take 1 (v := ?_) rfl (by kernel_rfl) (fun _ _ _ h => h) ⟨by rfl, ?_⟩ (by assumption) ?_
          rotate_left; · (intro w hSw; (try dsimp only at hSw); go_simp <;> with_reducible rfl)
          try simp only [Act.put, List.setIfInBounds_toArray, List.set_cons_zero, List.set_cons_succ]
          refine wpAnyT_take 2 (v := ?_) rfl (by kernel_rfl) (fun _ _ _ h => h) ⟨by rfl, ?_⟩ (by assumption) ?_
          rotate_left; · (intro w hSw; (try dsimp only at hSw); go_simp <;> with_reducible rfl)
          try simp only [Act.put, List.setIfInBounds_toArray, List.set_cons_zero, List.set_cons_succ]
          refine wpAnyT_take 3 (v := ?_) rfl (by kernel_rfl) (fun _ _ _ h => h) ⟨by rfl, ?_⟩ (by assumption) ?_
          rotate_left; · (intro w hSw; (try dsimp only at hSw); go_simp <;> with_reducible rfl)
          try simp only [Act.put, List.setIfInBounds_toArray, List.set_cons_zero, List.set_cons_succ]
          refine wpAnyT_take 4 (v := ?_) rfl (by kernel_rfl) (fun _ _ _ h => h) ⟨by rfl, ?_⟩ (by assumption) ?_
          rotate_left; · (intro w hSw; (try dsimp only at hSw); go_simp <;> with_reducible rfl)
          try simp only [Act.put, List.setIfInBounds_toArray, List.set_cons_zero, List.set_cons_succ]
          refine wpAnyT_take 5 (v := ?_) rfl (by kernel_rfl) (fun _ _ _ h => h) ⟨by rfl, ?_⟩ (by assumption) ?_
          rotate_left; · (intro w hSw; (try dsimp only at hSw); go_simp <;> with_reducible rfl)
          try simp only [Act.put, List.setIfInBounds_toArray, List.set_cons_zero, List.set_cons_succ]
          refine wpAnyT_take 6 (v := ?_) rfl (by kernel_rfl) (fun _ _ _ h => h) ⟨by rfl, ?_⟩ (by assumption) ?_
          rotate_left; · (intro w hSw; (try dsimp only at hSw); go_simp <;> with_reducible rfl)
          try simp only [Act.put, List.setIfInBounds_toArray, List.set_cons_zero, List.set_cons_succ]
          refine wpAnyT_take 8 (v := ?_) rfl (by kernel_rfl) (fun _ _ _ h => h) ⟨by rfl, ?_⟩ (by assumption) ?_
          rotate_left; · (intro w hSw; (try dsimp only at hSw); go_simp <;> with_reducible rfl)
          try simp only [Act.put, List.setIfInBounds_toArray, List.set_cons_zero, List.set_cons_succ]
          refine wpAnyT_take 9 (v := ?_) rfl (by kernel_rfl) (fun _ _ _ h => h) ⟨by rfl, ?_⟩ (by assumption) ?_
          rotate_left; · (intro w hSw; (try dsimp only at hSw); go_simp <;> with_reducible rfl)
          try simp only [Act.put, List.setIfInBounds_toArray, List.set_cons_zero, List.set_cons_succ]
          refine wpAnyT_take 11 (v := ?_) rfl (by kernel_rfl) (fun _ _ _ h => h) ⟨by rfl, ?_⟩ (by assumption) ?_
          rotate_left; · (intro w hSw; (try dsimp only at hSw); go_simp <;> with_reducible rfl)
          try simp only [Act.put, List.setIfInBounds_toArray, List.set_cons_zero, List.set_cons_succ]
          refine wpAnyT_take 12 (v := ?_) rfl (by kernel_rfl) (fun _ _ _ h => h) ⟨by rfl, ?_⟩ (by assumption) ?_
          rotate_left; · (intro w hSw; (try dsimp only at hSw); go_simp <;> with_reducible rfl)
          try simp only [Act.put, List.setIfInBounds_toArray, List.set_cons_zero, List.set_cons_succ]
          refine wpAnyT_head 7 rfl (by kernel_rfl) (fun K hK => ?_)
          go_simp
          go_wp2_with (go_at_call 27; refine (P1.out _).mono ?_; rintro e w2 ⟨rfl, rfl⟩)
          refine hK.out _ _ ?_ (fun hHeld => ?_)
          · (try dsimp only); (first | assumption | exact hS5 | go_keep)
          try dsimp only at hHeld
          clear hK K
          refine wpAnyT_head 10 rfl (by kernel_rfl) (fun K hK => ?_)
          go_simp
          go_wp2_with (go_at_call 27; refine (P2.out _).mono ?_; rintro e w2 ⟨rfl, rfl⟩)
          refine hK.out _ _ ?_ (fun hHeld => ?_)
          · (try dsimp only); (first | assumption | exact hS5 | go_keep)
          try dsimp only at hHeld
          clear hK K
          refine wpAnyT_head 13 rfl (by kernel_rfl) (fun K hK => ?_)
          go_simp
          go_wp2_with (go_at_call 27; refine (P3.out _).mono ?_; rintro e w2 ⟨rfl, rfl⟩)
          refine hK.out _ _ ?_ (fun hHeld => ?_)
          · (try dsimp only); (first | assumption | exact hS5 | go_keep)
          try dsimp only at hHeld
          clear hK K
          refine wpAnyT_take 14 (v := ?_) rfl (by kernel_rfl) (fun _ _ _ h => h) ⟨by rfl, ?_⟩ (by assumption) ?_
          rotate_left; · (intro w hSw; (try dsimp only at hSw); go_simp <;> with_reducible rfl)
          try simp only [Act.put, List.setIfInBounds_toArray, List.set_cons_zero, List.set_cons_succ]
          refine wpAnyT_head 15 rfl (by kernel_rfl) (fun K hK => ?_)
          go_simp
          refine hK.out _ _ ?_ (fun hHeld => ?_)
          · (try dsimp only); (first | assumption | exact hS5 | go_keep)
          try dsimp only at hHeld
          clear hK K
          refine wpAnyT_head 16 rfl (by kernel_rfl) (fun K hK => ?_)
          (have hHeld0 := hHeldW; refine step_of rfl (appendR HOB.out hn ?_ ?_ ga gb gc (.tmp 76) (.tmp 90) rfl ?_ ?_ ?_); (have := HFF.out.size; omega); omega; rfl; rfl; intro g c2 w5 h5 f5; have C5 := ((f5.block _ (row_lt HCC.out) (fun e => HOB.out.ownR HCC.out (by decide) e)).trans HCC.out); have cc5 := row_cell (l := [_, _, _]) C5 1; have cf5 := row_free C5 1; simp only [List.getElem?_cons_zero, List.getElem?_cons_succ] at cc5; obtain ⟨q0, q1, q2, q3, q4⟩ := hHeld0; have hS5 := (And.intro (f5.cells1 (fun e => HOB.out.ownR HCC.out (by decide) e) q0) (And.intro (f5.cells1 (fun e => HOB.out.ownR HCC.out (by decide) e) q1) (And.intro (f5.cells1 (fun e => absurd (HLT.out _ e) (Nat.lt_irrefl _)) q2) (And.intro (f5.cells1 (fun e => absurd (HLT.out _ e) (Nat.lt_irrefl _)) q3) (f5.cells1 (fun e => absurd (HLT.out _ e) (Nat.lt_irrefl _)) q4))))); have C5 := hid C5; have H5 := hid h5; have F5 := hid f5; clear h5 f5)
          refine hK.out _ _ ?_ (fun hHeld => ?_)
          · (try dsimp only); (first | assumption | exact hS5 | go_keep)
          try dsimp only at hHeld
          clear hK K
          refine wpAnyT_take 17 (v := ?_) rfl (by kernel_rfl) (fun _ _ _ h => h) ⟨by rfl, ?_⟩ (by assumption) ?_
          rotate_left; · (intro w hSw; (try dsimp only at hSw); go_simp <;> with_reducible rfl)
          try simp only [Act.put, List.setIfInBounds_toArray, List.set_cons_zero, List.set_cons_succ]
          refine wpAnyT_tail 18 rfl (by kernel_rfl) (by kernel_rfl) (fun K hK => ?_)
          go_simp
          refine hK.out _ _ ?_
          clear hK K
          refine wpAnyT_done (by kernel_rfl) ?_
          have OB5 := hid (HOB.out.pushR F5.out ⟨ga, gb, gc⟩ hn H5.out)
          have FF5 := hid (HFF.out.then F5.out (fun i hi e => absurd (own_base HOB.out.or i e).1 (by omega)))
          go_wp2
          go_roundw
          case rel => exact ⟨k + 1, some ⟨g, 0, none⟩, c2, by omega, by omega, fun e => by omega, by go_num, hid (by rw [HUP.out]; exact OB5.out.set34 C5.out _), hid (set34 C5.out _).2.1, hid (FF5.out.setCell (p := ⟨w.heap.size + 1 + 1, 1, none⟩) (fun _ => rfl) _)⟩
          case measure => simp [intOf]; omega
        · have HST : Hid ((x.rs.take k).map (madeRp (madeC x).length) = (made x).rps) := hid (by
            show _ = if (madeC x).length = 0 then [] else (x.rs.take 3).map (madeRp (madeC x).length)
            split
            · rename_i h0
              rw [hk0 h0]
              rfl
            · rcases Nat.lt_or_ge k 3 with h | h
              · rw [List.take_of_length_le (by omega), List.take_of_length_le (by omega)]
              · rw [show k = 3 by omega])
          have HLN : Hid ((made x).rps.length = k) := hid (by rw [← HST.out]; simp; omega)
          go_wp2
          all_goals
            go_meet
            case rel => exact ⟨b4, c4, N, by rw [HLN.out, ← HST.out]; exact hO, by rw [HLN.out]; exact hC, hF⟩
    case rest =>
      clear hO hC hF
      obtain ⟨b, c4, N, hO, hC, hF⟩ := hcut
      go_upto_region 13 with (fail)
      iterate 3 (first | go_values | go_skip | go_guarded | go_step)
      rename_i kA hA kB hB kC hC
      refine hC _ _ ?_
      show kB _ _
      clear hC kC
      refine hB _ _ ?_
      clear hB kB
      go_cut [9] (fun _ wc => ∃ (d : Option Addr) (c5 : Nat) (N : Nat → Prop), Hid (OB W.heap.size N wc (.slice a (madeC x).length cc) (.slice b (made x).rps.length c4) (.slice d (made x).fcs.length c5) ms ⟨madeC x, (made x).rps, (made x).fcs⟩) ∧ Hid (wc.heap[w.heap.size + 1 + 1]? = some (.cells #[.slice a (madeC x).length cc, .slice b (made x).rps.length c4, .slice d (made x).fcs.length c5] 34 (0, 0))) ∧ Hid (Fr (fun i => i = w.heap.size + 1 + 1) W wc))
      case first =>
        go_wp2
        go_loopw [9] (fun s9 wr => ∃ (k : Nat) (d : Option Addr) (c5 : Nat), k ≤ 8 ∧ k ≤ x.fs.length ∧ s9 = .int .i64 k ∧ Hid (OB W.heap.size N wr (.slice a (madeC x).length cc) (.slice b (made x).rps.length c4) (.slice d k c5) ms ⟨madeC x, (made x).rps, (x.fs.take k).map madeFc⟩) ∧ Hid (wr.heap[w.heap.size + 1 + 1]? = some (.cells #[.slice a (madeC x).length cc, .slice b (made x).rps.length c4, .slice d k c5] 34 (0, 0))) ∧ Hid (Fr (fun i => i = w.heap.size + 1 + 1) W wr)) (fun s9 _ => 8 - (intOf s9).toNat)
        case atStart => exact ⟨0, none, 0, by omega, by omega, rfl, hO, hC, hF⟩
        case round =>
          clear hO hC hF
          obtain ⟨k, d6, c5, hk8, hkl, rfl, hO, hC, hF⟩ := hrel
          have z4 := hF.out.size
          have x0 := hF.out.cells1 (by omega) Y0.out
          have x1 := hF.out.cells1 (by omega) Y1.out
          have x2 := hF.out.cells1 (by omega) Y2.out
          by_cases hgo : k < x.fs.length ∧ k < 8
          · obtain ⟨hl, h8⟩ := hgo
            have hn : ((x.fs.take k).map madeFc).length = k := by simp; omega
            obtain ⟨b7, o, rfl, hb, d0, d1, d2, d3, d4, d5⟩ := reads_six ((HN.out.hf.fr F0.out (fun _ _ e => e)).fr hF.out (fun _ hk e => by omega)) k hl
            have hy := HN.out.bf x.fs[k] (List.getElem_mem hl)
            have HUP : Hid ((x.fs.take (k + 1)).map madeFc = (x.fs.take k).map madeFc ++ [madeFc x.fs[k]]) := hid (by rw [List.take_succ_eq_append_getElem hl, List.map_append]; rfl)
            generalize x.fs[k] = y at d0 d1 d2 d3 d4 d5 hy HUP
            obtain ⟨ya, yb, yc, yd, ye, yf⟩ := y
            dsimp only at d0 d1 d2 d3 d4 d5 hy
            obtain ⟨ia, ib, ic, id, ie, if_⟩ := hy
            have P1 := hid (pick27 ya 3 · ia (by omega) (by omega))
            have P2 := hid (pick27 yb 6 · ib (by omega) (by omega))
            have P3 := hid (part_any yc yd · ic id)
            have P4 := hid (part_any ye yf · ie if_)
            have HM : Hid (madeFc ⟨ya, yb, yc, yd, ye, yf⟩ = ⟨pickF ya 3, pickF yb 6, pickF yc 50, partTo yc yd, pickF ye 50, partTo ye yf⟩) := hid rfl
            rw [HM.out] at HUP
            generalize partTo yc yd = gd at HUP P3
            generalize partTo ye yf = gf at HUP P4
            generalize pickF ya 3 = ga at HUP P1
            generalize pickF yb 6 = gb at HUP P2
            generalize pickF yc 50 = gc at HUP P3
            generalize pickF ye 50 = ge at HUP P4
            clear HM ia ib ic id ie if_
            go_wp2_with (fail)
            have s0 := row_cell (w := wr.alloc (.cells #[.int .i64 ya, .int .i64 yb, .int .i64 yc, .int .i64 yd, .int .i64 ye, .int .i64 yf] 74)) (g := wr.heap.size) (l := [.int .i64 ya, .int .i64 yb, .int .i64 yc, .int .i64 yd, .int .i64 ye, .int .i64 yf]) (t := 74) (heap_alloc_new wr _)
            have s_0 := s0 0
            have s_1 := s0 1
            have s_2 := s0 2
            have s_3 := s0 3
            have s_4 := s0 4
            have s_5 := s0 5
            simp only [List.getElem?_cons_zero, List.getElem?_cons_succ] at s_0 s_1 s_2 s_3 s_4 s_5
            have HLT : Hid (∀ i, (Value.slice d6 k c5).ownBlock = some i → i < wr.heap.size) := hid (fun i e => (own_base hO.out.of i e).2)
            have HOB := hid (hO.out.quiet (((Fr.refl (fun _ => False) wr).alloc (.cells #[.int .i64 ya, .int .i64 yb, .int .i64 yc, .int .i64 yd, .int .i64 ye, .int .i64 yf] 74)).drew))
            have HFF := hid (hF.out.alloc (.cells #[.int .i64 ya, .int .i64 yb, .int .i64 yc, .int .i64 yd, .int .i64 ye, .int .i64 yf] 74)).drew
            have HCC : Hid ((wr.alloc (.cells #[.int .i64 ya, .int .i64 yb, .int .i64 yc, .int .i64 yd, .int .i64 ye, .int .i64 yf] 74)).drew.heap[w.heap.size + 1 + 1]? = _) := hid ((Below.heap_alloc _ _ _ (row_lt hC.out)).trans hC.out)
            have hne : w.heap.size + 1 + 1 ≠ wr.heap.size := by omega
            have cc0 := row_cell (l := [_, _, _]) HCC.out 0
            have cc1 := row_cell (l := [_, _, _]) HCC.out 1
            have cc2 := row_cell (l := [_, _, _]) HCC.out 2
            simp only [List.getElem?_cons_zero, List.getElem?_cons_succ] at cc0 cc1 cc2
            change World.cell? (wr.alloc (.cells #[.int .i64 ya, .int .i64 yb, .int .i64 yc, .int .i64 yd, .int .i64 ye, .int .i64 yf] 74)) _ = _ at cc0 cc1 cc2
            clear s0 x0 x1 x2 hC hF hO
            generalize wr.alloc (.cells #[.int .i64 ya, .int .i64 yb, .int .i64 yc, .int .i64 yd, .int .i64 ye, .int .i64 yf] 74) = W1 at *
            refine wp_region_T (fun w' : World => w'.cell? ⟨w.heap.size + 1 + 1, 2, none⟩ = some (.slice d6 k c5) ∧ w'.cell? ⟨wr.heap.size, 0, none⟩ = some (.int .i64 ya) ∧ w'.cell? ⟨wr.heap.size, 1, none⟩ = some (.int .i64 yb) ∧ w'.cell? ⟨wr.heap.size, 2, none⟩ = some (.int .i64 yc) ∧ w'.cell? ⟨wr.heap.size, 3, none⟩ = some (.int .i64 yd) ∧ w'.cell? ⟨wr.heap.size, 4, none⟩ = some (.int .i64 ye) ∧ w'.cell? ⟨wr.heap.size, 5, none⟩ = some (.int .i64 yf)) 22 (by kernel_rfl) (by (try dsimp only); (first | assumption | exact hS5 | exact hS2 | go_keep)) (fun hHeld => ?_)
            try dsimp only at hHeld
            refine wpAnyT_take 0 (v := ?_) rfl (by kernel_rfl) (fun _ _ _ h => h) ⟨by rfl, ?_⟩ (by assumption) ?_
            rotate_left; · (intro w hSw; (try dsimp only at hSw); go_simp <;> with_reducible rfl)
            try simp only [Act.put, List.setIfInBounds_toArray, List.set_cons_zero, List.set_cons_succ]
            refine wpAnyT_take 1 (v := ?_) rfl (by kernel_rfl) (fun _ _ _ h => h) ⟨by rfl, ?_⟩ (by assumption) ?_
            rotate_left; · (intro w hSw; (try dsimp only at hSw); go_simp <;> with_reducible rfl)
            try simp only [Act.put, List.setIfInBounds_toArray, List.set_cons_zero, List.set_cons_succ]
            refine wpAnyT_take 2 (v := ?_) rfl (by kernel_rfl) (fun _ _ _ h => h) ⟨by rfl, ?_⟩ (by assumption) ?_
            rotate_left; · (intro w hSw; (try dsimp only at hSw); go_simp <;> with_reducible rfl)
            try simp only [Act.put, List.setIfInBounds_toArray, List.set_cons_zero, List.set_cons_succ]
            refine wpAnyT_take 3 (v := ?_) rfl (by kernel_rfl) (fun _ _ _ h => h) ⟨by rfl, ?_⟩ (by assumption) ?_
            rotate_left; · (intro w hSw; (try dsimp only at hSw); go_simp <;> with_reducible rfl)
            try simp only [Act.put, List.setIfInBounds_toArray, List.set_cons_zero, List.set_cons_succ]
            refine wpAnyT_take 5 (v := ?_) rfl (by kernel_rfl) (fun _ _ _ h => h) ⟨by rfl, ?_⟩ (by assumption) ?_
            rotate_left; · (intro w hSw; (try dsimp only at hSw); go_simp <;> with_reducible rfl)
            try simp only [Act.put, List.setIfInBounds_toArray, List.set_cons_zero, List.set_cons_succ]
            refine wpAnyT_take 6 (v := ?_) rfl (by kernel_rfl) (fun _ _ _ h => h) ⟨by rfl, ?_⟩ (by assumption) ?_
            rotate_left; · (intro w hSw; (try dsimp only at hSw); go_simp <;> with_reducible rfl)
            try simp only [Act.put, List.setIfInBounds_toArray, List.set_cons_zero, List.set_cons_succ]
            refine wpAnyT_take 8 (v := ?_) rfl (by kernel_rfl) (fun _ _ _ h => h) ⟨by rfl, ?_⟩ (by assumption) ?_
            rotate_left; · (intro w hSw; (try dsimp only at hSw); go_simp <;> with_reducible rfl)
            try simp only [Act.put, List.setIfInBounds_toArray, List.set_cons_zero, List.set_cons_succ]
            refine wpAnyT_take 9 (v := ?_) rfl (by kernel_rfl) (fun _ _ _ h => h) ⟨by rfl, ?_⟩ (by assumption) ?_
            rotate_left; · (intro w hSw; (try dsimp only at hSw); go_simp <;> with_reducible rfl)
            try simp only [Act.put, List.setIfInBounds_toArray, List.set_cons_zero, List.set_cons_succ]
            refine wpAnyT_take 10 (v := ?_) rfl (by kernel_rfl) (fun _ _ _ h => h) ⟨by rfl, ?_⟩ (by assumption) ?_
            rotate_left; · (intro w hSw; (try dsimp only at hSw); go_simp <;> with_reducible rfl)
            try simp only [Act.put, List.setIfInBounds_toArray, List.set_cons_zero, List.set_cons_succ]
            refine wpAnyT_take 11 (v := ?_) rfl (by kernel_rfl) (fun _ _ _ h => h) ⟨by rfl, ?_⟩ (by assumption) ?_
            rotate_left; · (intro w hSw; (try dsimp only at hSw); go_simp <;> with_reducible rfl)
            try simp only [Act.put, List.setIfInBounds_toArray, List.set_cons_zero, List.set_cons_succ]
            refine wpAnyT_take 13 (v := ?_) rfl (by kernel_rfl) (fun _ _ _ h => h) ⟨by rfl, ?_⟩ (by assumption) ?_
            rotate_left; · (intro w hSw; (try dsimp only at hSw); go_simp <;> with_reducible rfl)
            try simp only [Act.put, List.setIfInBounds_toArray, List.set_cons_zero, List.set_cons_succ]
            refine wpAnyT_take 14 (v := ?_) rfl (by kernel_rfl) (fun _ _ _ h => h) ⟨by rfl, ?_⟩ (by assumption) ?_
            rotate_left; · (intro w hSw; (try dsimp only at hSw); go_simp <;> with_reducible rfl)
            try simp only [Act.put, List.setIfInBounds_toArray, List.set_cons_zero, List.set_cons_succ]
            refine wpAnyT_take 15 (v := ?_) rfl (by kernel_rfl) (fun _ _ _ h => h) ⟨by rfl, ?_⟩ (by assumption) ?_
            rotate_left; · (intro w hSw; (try dsimp only at hSw); go_simp <;> with_reducible rfl)
            try simp only [Act.put, List.setIfInBounds_toArray, List.set_cons_zero, List.set_cons_succ]
            refine wpAnyT_take 16 (v := ?_) rfl (by kernel_rfl) (fun _ _ _ h => h) ⟨by rfl, ?_⟩ (by assumption) ?_
            rotate_left; · (intro w hSw; (try dsimp only at hSw); go_simp <;> with_reducible rfl)
            try simp only [Act.put, List.setIfInBounds_toArray, List.set_cons_zero, List.set_cons_succ]
            refine wpAnyT_head 4 rfl (by kernel_rfl) (fun K hK => ?_)
            go_simp
            go_wp2_with (go_at_call 27; refine (P1.out _).mono ?_; rintro e w2 ⟨rfl, rfl⟩)
            refine hK.out _ _ ?_ (fun hHeld => ?_)
            · (try dsimp only); (first | assumption | exact hS5 | exact hS2 | go_keep)
            try dsimp only at hHeld
            clear hK K
            refine wpAnyT_head 7 rfl (by kernel_rfl) (fun K hK => ?_)
            go_simp
            go_wp2_with (go_at_call 27; refine (P2.out _).mono ?_; rintro e w2 ⟨rfl, rfl⟩)
            refine hK.out _ _ ?_ (fun hHeld => ?_)
            · (try dsimp only); (first | assumption | exact hS5 | exact hS2 | go_keep)
            try dsimp only at hHeld
            clear hK K
            refine wpAnyT_head 12 rfl (by kernel_rfl) (fun K hK => ?_)
            go_simp
            go_wp2_with (go_at_call 28; refine (P3.out _).mono ?_; rintro e w2 ⟨rfl, f2⟩; obtain ⟨q0, q1, q2, q3, q4, q5, q6⟩ := hHeld; have hS2 := (And.intro (f2.cells1 (fun e => e) q0) (And.intro (f2.cells1 (fun e => e) q1) (And.intro (f2.cells1 (fun e => e) q2) (And.intro (f2.cells1 (fun e => e) q3) (And.intro (f2.cells1 (fun e => e) q4) (And.intro (f2.cells1 (fun e => e) q5) (f2.cells1 (fun e => e) q6))))))); have HOB := hid (HOB.out.quiet f2); have HFF := hid (HFF.out.trans f2.non); have HCC := hid ((f2.block _ (row_lt HCC.out) (fun e => e)).trans HCC.out); clear f2)
            refine hK.out _ _ ?_ (fun hHeld => ?_)
            · (try dsimp only); (first | assumption | exact hS5 | exact hS2 | go_keep)
            try dsimp only at hHeld
            clear hK K
            refine wpAnyT_head 17 rfl (by kernel_rfl) (fun K hK => ?_)
            go_simp
            go_wp2_with (go_at_call 28; refine (P4.out _).mono ?_; rintro e w3 ⟨rfl, f2⟩; obtain ⟨q0, q1, q2, q3, q4, q5, q6⟩ := hHeld; have hS2 := (And.intro (f2.cells1 (fun e => e) q0) (And.intro (f2.cells1 (fun e => e) q1) (And.intro (f2.cells1 (fun e => e) q2) (And.intro (f2.cells1 (fun e => e) q3) (And.intro (f2.cells1 (fun e => e) q4) (And.intro (f2.cells1 (fun e => e) q5) (f2.cells1 (fun e => e) q6))))))); have HOB := hid (HOB.out.quiet f2); have HFF := hid (HFF.out.trans f2.non); have HCC := hid ((f2.block _ (row_lt HCC.out) (fun e => e)).trans HCC.out); clear f2)
            refine hK.out _ _ ?_ (fun hHeld => ?_)
            · (try dsimp only); (first | assumption | exact hS5 | exact hS2 | go_keep)
            try dsimp only at hHeld
            clear hK K
            refine wpAnyT_take 18 (v := ?_) rfl (by kernel_rfl) (fun _ _ _ h => h) ⟨by rfl, ?_⟩ (by assumption) ?_
            rotate_left; · (intro w hSw; (try dsimp only at hSw); go_simp <;> with_reducible rfl)
            try simp only [Act.put, List.setIfInBounds_toArray, List.set_cons_zero, List.set_cons_succ]
            refine wpAnyT_head 19 rfl (by kernel_rfl) (fun K hK => ?_)
            go_simp
            refine hK.out _ _ ?_ (fun hHeld => ?_)
            · (try dsimp only); (first | assumption | exact hS5 | exact hS2 | go_keep)
            try dsimp only at hHeld
            clear hK K
            refine wpAnyT_head 20 rfl (by kernel_rfl) (fun K hK => ?_)
            (refine step_of rfl (appendF HOB.out hn ?_ ?_ ga gb gc gd ge gf (.tmp 110) (.tmp 128) rfl ?_ ?_ ?_); (have := HFF.out.size; omega); omega; rfl; rfl; intro g c2 w5 h5 f5; have C5 := ((f5.block _ (row_lt HCC.out) (fun e => HOB.out.ownF HCC.out (by decide) e)).trans HCC.out); have cc5 := row_cell (l := [_, _, _]) C5 2; have cf5 := row_free C5 2; simp only [List.getElem?_cons_zero, List.getElem?_cons_succ] at cc5; obtain ⟨q0, q1, q2, q3, q4, q5, q6⟩ := hS2; have hS5 := (And.intro (f5.cells1 (fun e => HOB.out.ownF HCC.out (by decide) e) q0) (And.intro (f5.cells1 (fun e => absurd (HLT.out _ e) (Nat.lt_irrefl _)) q1) (And.intro (f5.cells1 (fun e => absurd (HLT.out _ e) (Nat.lt_irrefl _)) q2) (And.intro (f5.cells1 (fun e => absurd (HLT.out _ e) (Nat.lt_irrefl _)) q3) (And.intro (f5.cells1 (fun e => absurd (HLT.out _ e) (Nat.lt_irrefl _)) q4) (And.intro (f5.cells1 (fun e => absurd (HLT.out _ e) (Nat.lt_irrefl _)) q5) (f5.cells1 (fun e => absurd (HLT.out _ e) (Nat.lt_irrefl _)) q6))))))); have C5 := hid C5; have H5 := hid h5; have F5 := hid f5; clear h5 f5)
            refine hK.out _ _ ?_ (fun hHeld => ?_)
            · (try dsimp only); (first | assumption | exact hS5 | exact hS2 | go_keep)
            try dsimp only at hHeld
            clear hK K
            refine wpAnyT_take 21 (v := ?_) rfl (by kernel_rfl) (fun _ _ _ h => h) ⟨by rfl, ?_⟩ (by assumption) ?_
            rotate_left; · (intro w hSw; (try dsimp only at hSw); go_simp <;> with_reducible rfl)
            try simp only [Act.put, List.setIfInBounds_toArray, List.set_cons_zero, List.set_cons_succ]
            refine wpAnyT_tail 22 rfl (by kernel_rfl) (by kernel_rfl) (fun K hK => ?_)
            go_simp
            refine hK.out _ _ ?_
            clear hK K
            refine wpAnyT_done (by kernel_rfl) ?_
            have OB5 := hid (HOB.out.pushF F5.out [⟨ga, gb, gc, gd, ge, gf⟩] hn H5.out)
            have FF5 := hid (HFF.out.then F5.out (fun i hi e => absurd (own_base HOB.out.of i e).1 (by omega)))
            go_wp2
            go_roundw
            case rel => exact ⟨k + 1, some ⟨g, 0, none⟩, c2, by omega, by omega, by go_num, hid (by rw [HUP.out]; exact OB5.out.set34 C5.out _), hid (set34 C5.out _).2.2, hid (FF5.out.setCell (p := ⟨w.heap.size + 1 + 1, 2, none⟩) (fun _ => rfl) _)⟩
            case measure => simp [intOf]; omega
          · have HST : Hid ((x.fs.take k).map madeFc = (made x).fcs) := hid (by
              show _ = (x.fs.take 8).map madeFc
              rcases Nat.lt_or_ge k 8 with h | h
              · rw [List.take_of_length_le (by omega), List.take_of_length_le (by omega)]
              · rw [show k = 8 by omega])
            have HLN : Hid ((made x).fcs.length = k) := hid (by rw [← HST.out]; simp; omega)
            go_wp2
            all_goals
              go_meet
              case rel => exact ⟨d6, c5, N, by rw [HLN.out, ← HST.out]; exact hO, by rw [HLN.out]; exact hC, hF⟩
      case rest =>
        clear hO hC hF
        obtain ⟨d, c5, N, hO, hC, hF⟩ := hcut
        have z1 := (hF.out.block _ (row_lt Z1.out) (by omega)).trans Z1.out
        have u0 := row_cell (l := [_, _, _]) hC.out 0
        have u1 := row_cell (l := [_, _, _]) hC.out 1
        have u2 := row_cell (l := [_, _, _]) hC.out 2
        have v0 := row_cell (l := [_, _, _]) z1 0
        have v1 := row_cell (l := [_, _, _]) z1 1
        have v2 := row_cell (l := [_, _, _]) z1 2
        have e0 := row_free z1 0
        have e1 := row_free z1 1
        have e2 := row_free z1 2
        simp only [List.getElem?_cons_zero, List.getElem?_cons_succ] at u0 u1 u2 v0 v1 v2
        have ZZ := hid z1
        clear z1
        go_wp2
        refine bodyPost_ret (v := .agg #[.slice a (madeC x).length cc, .slice b (made x).rps.length c4, .slice d (made x).fcs.length c5]) ?_ rfl ⟨a, b, d, _, _, _, cc, c4, c5, ms, N, rfl, ?_, ?_⟩
        · simp [results, show Try.f10.results = #[.cell 2 34] from rfl, loadVar, go_sem, Try.isAgg34, Try.sizeOf34, asAddr, Result.andThen, *]
        · have q1 := hO.out.set34 (i := 0) ZZ.out (.slice a (madeC x).length cc)
          have y1 := (set34 ZZ.out (.slice a (madeC x).length cc)).1
          have q2 := q1.set34 (i := 1) y1 (.slice b (made x).rps.length c4)
          have y2 := (set34 y1 (.slice b (made x).rps.length c4)).2.1
          have q3 := q2.set34 (i := 2) y2 (.slice d (made x).fcs.length c5)
          exact q3.mono (by omega)
        · exact (((F0.out.then hF.out (fun i hi e => by omega)).setCell (p := ⟨w.heap.size + 1, 0, none⟩) (fun h => by simp at h; omega) _).setCell (p := ⟨w.heap.size + 1, 1, none⟩) (fun h => by simp at h; omega) _).setCell (p := ⟨w.heap.size + 1, 2, none⟩) (fun h => by simp at h; omega) _
end Go.Proofs.Ytfalhljidnpmgaa
