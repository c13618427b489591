/- Uses: what a proof leans on. No condition beside the bounds. -/
import Derived.Test.YtfalhljidnpmgaaD1
import Derived.Test.YtfalhljidnpmgaaP1
import Derived.Deep.DeepCutAuto
set_option linter.unusedVariables false
set_option linter.unusedSimpArgs false
namespace Go.Proofs.Ytfalhljidnpmgaa
open Go.RowKit Go.Proofs.Statute Go.Maps

def useF1 (acc : List Int) (x : Fnd) : List Int := if 0 ≤ x.fact then ins acc x.fact else acc
def useG1 (j : Jd) (x : Fnd) (acc : List Int) (i : Nat) : List Int := if (clAt j.c i).gives == x.says then ins acc i else acc
def useC1 (j : Jd) (acc : List Int) (x : Fnd) : List Int := if 0 ≤ x.fact then acc else if 0 ≤ x.clause then ins acc x.clause else j.G.foldl (useG1 j x) acc
def useF (l : List Fnd) : List Int := l.foldl useF1 []
def useC (j : Jd) (l : List Fnd) : List Int := l.foldl (useC1 j) []
theorem fold_take {α β : Type} (f : β → α → β) (b : β) (l : List α) (k : Nat) (hk : k < l.length) : (l.take (k + 1)).foldl f b = f ((l.take k).foldl f b) l[k] := by
  rw [List.take_succ_eq_append_getElem hk, List.foldl_append]
  rfl
theorem useF1_len (acc : List Int) (x : Fnd) : (useF1 acc x).length ≤ acc.length + 1 := by
  unfold useF1
  split
  · exact ins_length _ _
  · omega
theorem useG_len (j : Jd) (x : Fnd) : ∀ (l : List Nat) (acc : List Int), (l.foldl (useG1 j x) acc).length ≤ acc.length + l.length
  | [], acc => by simp
  | i :: l, acc => by
    have h := useG_len j x l (useG1 j x acc i)
    have h2 : (useG1 j x acc i).length ≤ acc.length + 1 := by
      unfold useG1
      split
      · exact ins_length _ _
      · omega
    simp only [List.foldl_cons, List.length_cons]
    omega
theorem useC1_len (j : Jd) (hG : j.G.length ≤ 20) (acc : List Int) (x : Fnd) : (useC1 j acc x).length ≤ acc.length + 20 := by
  unfold useC1
  split
  · omega
  · split
    · have := ins_length acc x.clause
      omega
    · have := useG_len j x j.G acc
      omega
theorem asc_len : ∀ (l : List Fnd) (last : Int), -1 ≤ last → last ≤ 19 → ascF last l = true → (l.length : Int) + last ≤ 19
  | [], last, _, h, _ => by simpa using h
  | x :: l, last, h0, _, h => by
    simp only [ascF, inB, Bool.and_eq_true, decide_eq_true_eq] at h
    have := asc_len l x.says (by omega) (by omega) h.2
    simp only [List.length_cons]
    omega
theorem proves_len {j : Jd} {n : Int} {h : Bool} {l : List Fnd} (hp : j.proves n h l = true) : l.length ≤ 20 := by
  unfold Jd.proves at hp
  simp only [Bool.and_eq_true] at hp
  have := asc_len l (-1) (by omega) (by omega) hp.1.1.1.1
  omega
def Used (w : World) (j : Jd) (l : List Fnd) (e : Ending) (w' : World) : Prop :=
  ∃ a b n1 n2 c1 c2, n1 = (useF l).length ∧ n2 = (useC j l).length ∧ e = .returned (.tuple #[.slice a n1 c1, .slice b n2 c2, .int .i64 0]) ∧ w'.ownsRow w.heap.size 3 1 (.slice a n1 c1) n1 (ints (useF l)) ∧ w'.ownsRow w.heap.size 3 1 (.slice b n2 c2) n2 (ints (useC j l)) ∧ Fr (fun _ => False) w w'
set_option maxRecDepth 100000 in
set_option maxHeartbeats 12800000 in
theorem uses_ok {K K2 : Nat → Prop} {w : World} {cl rl fl lv : Value} {ms : List CM} {c : Rb} {l : List Fnd} (h : RB K w cl rl fl ms c) (q : Qn) (hr : Reads K2 w 4 encD lv l) (hv : validB c = true) (ha : asksB q = true) (tv : Bool) (hp1 : (jdOf c q).proves q.says true l = tv) (hp2 : tv = false → (jdOf c q).proves q.says false l = true) :
    Calls Try.prog 18 #[.agg #[cl, rl, fl], .agg (qcells q), lv] w (Used w (jdOf c q) l) := by
  have H2 : Hid (RB (fun k => k < w.heap.size) ((w.alloc (.cells #[cl, rl, fl] 34)).alloc (.cells (qcells q) 37)) cl rl fl ms c) := hid ((h.mono (fun k hk _ => hk)).fr (((Fr.refl (fun _ => False) w).alloc _).alloc _) (fun _ _ e => e))
  have F0 : Hid (Fr (fun _ => False) w ((w.alloc (.cells #[cl, rl, fl] 34)).alloc (.cells (qcells q) 37))) := hid (((Fr.refl _ _).alloc _).alloc _)
  have HR := hid (hr.mono (K' := fun k => k < w.heap.size) (fun k hk _ => hk))
  have hll : l.length ≤ 20 := by
    cases tv with
    | true => exact proves_len hp1
    | false => exact proves_len (hp2 rfl)
  obtain ⟨al, lc, rfl, _⟩ := hr
  obtain ⟨a1, c1, rfl, _⟩ := h.hc
  obtain ⟨a2, e2, rfl, _⟩ := h.hr
  obtain ⟨a3, e3, rfl, _⟩ := h.hf
  clear h
  have HA := hid (open_ok H2.out q hv ha)
  unfold Opened at HA
  have Z0 : Hid (((w.alloc (.cells #[.slice a1 ms.length c1, .slice a2 c.rps.length e2, .slice a3 c.fcs.length e3] 34)).alloc (.cells (qcells q) 37)).heap[w.heap.size]? = some (.cells #[.slice a1 ms.length c1, .slice a2 c.rps.length e2, .slice a3 c.fcs.length e3] 34 (0, 0))) := hid ((Below.heap_alloc _ _ _ (by simp)).trans (heap_alloc_new w _))
  have Z1 : Hid (((w.alloc (.cells #[.slice a1 ms.length c1, .slice a2 c.rps.length e2, .slice a3 c.fcs.length e3] 34)).alloc (.cells (qcells q) 37)).heap[w.heap.size + 1]? = some (.cells (qcells q) 37 (0, 0))) := hid (by
    have := heap_alloc_new (w.alloc (.cells #[.slice a1 ms.length c1, .slice a2 c.rps.length e2, .slice a3 c.fcs.length e3] 34)) (.cells (qcells q) 37)
    rw [show (w.alloc (.cells #[.slice a1 ms.length c1, .slice a2 c.rps.length e2, .slice a3 c.fcs.length e3] 34)).heap.size = w.heap.size + 1 by simp] at this
    exact this)
  generalize hj : jdOf c q = j at HA hp1 hp2 ⊢
  have HJC : Hid (j.c = c) := hid (by rw [← hj]; rfl)
  clear hj hv ha
  obtain ⟨qt, qs, qa, qk⟩ := q
  unfold qcells at *
  dsimp only at HA F0 H2 hp1 hp2 Z0 Z1 ⊢
  have HP1 := hid hp1
  have HP2 := hid hp2
  clear hp1 hp2
  go_enter Try.func18, Try.ntmps18
  go_upto_region 2 with ((go_at_call 30; refine HA.out.mono ?_; rintro e w1 ⟨J, b, fv, gv, rfl, hj, f1, hbn⟩; have HJ := hid hj; have F1 := hid (F0.out.trans f1); have R1 := hid ((HR.out.fr F0.out (fun _ _ e => e)).fr f1 (fun _ _ e => e)); have z0 := hid ((f1.block _ (row_lt Z0.out) (fun e => e)).trans Z0.out); have z1 := hid ((f1.block _ (row_lt Z1.out) (fun e => e)).trans Z1.out); have y1 := row_cell (l := [_, _, _, _]) z1.out 1; have y0 := row_cell (l := [_, _, _]) z0.out 0; simp only [List.getElem?_cons_zero, List.getElem?_cons_succ] at y0 y1; clear hj f1))
  go_cut [40] (fun s40 wc => s40 = .bool false ∧ Hid (Fr (fun _ => False) w1 wc))
  case first =>
    cases tv with
    | true =>
      go_wp2_with (go_at_call 34; refine (proves_any HJ.out R1.out (by omega) qs true).mono ?_; rw [HP1.out]; rintro e w2 ⟨rfl, f2⟩; have F2 := hid f2; clear f2)
      go_meet
      case rel => exact ⟨rfl, F2⟩
    | false =>
      have HP3 := hid (HP2.out rfl)
      have T1 := hid trivial
      go_wp2_with (first | (go_at_call 34; clear T1; refine (proves_any HJ.out R1.out (by omega) qs true).mono ?_; rw [HP1.out]; rintro e w2 ⟨rfl, f2⟩; have F2 := hid f2; have HJ2 := hid (HJ.out.quiet f2); have R2 := hid (R1.out.fr f2 (fun _ _ e => e)); have y1 := f2.cells1 (fun e => e) y1; clear f2) | (go_at_call 34; refine (proves_any HJ2.out R2.out (by omega) qs false).mono ?_; rw [HP3.out]; rintro e w3 ⟨rfl, f3⟩; have F3 := hid (F2.out.trans f3); clear f3))
      go_meet
      case rel => exact ⟨rfl, F3⟩
  case rest =>
    obtain ⟨rfl, F2⟩ := hcut
    have HJC2 : Hid (∀ i, clAt j.c i = clAt c i) := hid (fun i => by rw [HJC.out])
    have z2 : w.heap.size + 1 < wc.heap.size := row_lt ((F2.out.block _ (row_lt z1.out) (fun e => e)).trans z1.out)
    have HJ2 := hid (HJ.out.quiet F2.out)
    have R2 := hid (R1.out.fr F2.out (fun _ _ e => e))
    have FF := hid (F1.out.trans F2.out)
    have X0 := hid ((F2.out.block _ (row_lt z0.out) (fun e => e)).trans z0.out)
    clear F1 F2 R1 HJ z0 z1 y0 y1 HA HR F0 H2 Z0 Z1 HP1 HP2
    obtain ⟨ag, cg, rfl, _⟩ := HJ2.out.hG
    go_wp2
    go_loopw [11, 12, 43] (fun s11 s12 s43 wr => ∃ (k : Nat) (a : Option Addr) (cc : Nat) (b2 : Option Addr) (c4 : Nat) (n1 n2 : Nat), k ≤ l.length ∧ s43 = .int .i64 k ∧ Hid (n1 = (useF (l.take k)).length) ∧ Hid (n2 = (useC j (l.take k)).length) ∧ n1 ≤ k ∧ n2 ≤ 20 * k ∧ s11 = .slice a n1 cc ∧ s12 = .slice b2 n2 c4 ∧ Hid (wr.ownsRow wc.heap.size 3 1 (.slice a n1 cc) n1 (ints (useF (l.take k)))) ∧ Hid (wr.ownsRow wc.heap.size 3 1 (.slice b2 n2 c4) n2 (ints (useC j (l.take k)))) ∧ Hid (∀ i, (Value.slice a n1 cc).ownBlock = some i → (Value.slice b2 n2 c4).ownBlock ≠ some i) ∧ Hid (Fr (fun _ => False) wc wr)) (fun _ _ s43 _ => l.length - (intOf s43).toNat)
    case atStart => exact ⟨0, none, 0, none, 0, 0, 0, Nat.zero_le _, rfl, hid rfl, hid rfl, by omega, by omega, rfl, rfl, hid (World.ownsRow_nil _ _ _ _), hid (World.ownsRow_nil _ _ _ _), hid (fun i e => by simp [Value.ownBlock] at e), hid (Fr.refl _ _)⟩
    case round =>
      obtain ⟨k, a, cc, b2, c4, n1, n2, hk, rfl, hn1, hn2, hb1, hb2, rfl, rfl, hO, hP, hA, hF⟩ := hrel
      have z4 := hF.out.size
      by_cases hlt : k < l.length
      · obtain ⟨b3, o3, rfl, d1, d2, d3, d4⟩ := reads_four (R2.out.fr hF.out (fun _ _ e => e)) k hlt
        have HUF : Hid (useF (l.take (k + 1)) = useF1 (useF (l.take k)) l[k]) := hid (fold_take _ _ l k hlt)
        have HUC : Hid (useC j (l.take (k + 1)) = useC1 j (useC j (l.take k)) l[k]) := hid (fold_take _ _ l k hlt)
        generalize useF (l.take k) = xs at hn1 hO HUF
        generalize useC j (l.take k) = ys at hn2 hP HUC
        generalize l[k] = x at d1 d2 d3 d4 HUF HUC
        obtain ⟨xs_, xh, xf, xc⟩ := x
        dsimp only at d1 d2 d3 d4
        by_cases hf : 0 ≤ xf
        · have HU1 : Hid (useF (l.take (k + 1)) = ins xs xf) := hid (by rw [HUF.out]; unfold useF1; rw [if_pos hf])
          have HU2 : Hid (useC j (l.take (k + 1)) = ys) := hid (by rw [HUC.out]; unfold useC1; rw [if_pos hf])
          have hil := hid (ins_length xs xf)
          clear HUF HUC
          have M1 := heap_alloc_new (wr.alloc (.cells #[.int .i64 xs_, .bool xh, .int .i64 xf, .int .i64 xc] 63)) (.cells #[.int .i64 xf] 3)
          rw [show (wr.alloc (.cells #[.int .i64 xs_, .bool xh, .int .i64 xf, .int .i64 xc] 63)).heap.size = wr.heap.size + 1 by simp] at M1
          have hI := hid (insert_n (own_fr hO.out (((Fr.refl (fun _ => False) wr).alloc (.cells #[.int .i64 xs_, .bool xh, .int .i64 xf, .int .i64 xc] 63)).alloc (.cells #[.int .i64 xf] 3)) (fun _ _ e => e)) hn1.out (by simp; omega) (by omega) xf _ M1)
          have M2 := hid M1
          clear M1
          go_wp2_with (go_at_call 35; refine hI.out.mono ?_; rintro e w5 ⟨g5, cap5, rfl, o5, f5, g6⟩; have O5 := hid o5; have F5 := hid f5; have G6 := hid g6; clear o5 f5 g6)
          go_roundw
          case rel =>
            refine ⟨k + 1, some ⟨g5, 0, none⟩, cap5, b2, c4, (ins xs xf).length, n2, by omega, by go_num, hid (by rw [HU1.out]), hid (by rw [HU2.out]; exact hn2.out), (by have := hil.out; have := hn1.out; omega), by omega, rfl, rfl, hid (by rw [HU1.out]; exact O5.out), hid ?_, hid ?_, hid ?_⟩
            · rw [HU2.out]
              exact own_fr (own_fr hP.out (((Fr.refl (fun _ => False) wr).alloc _).alloc _) (fun _ _ e => e)) F5.out (fun i e e2 => hA.out i e2 e)
            · intro i e e2
              have hb := own_base hP.out i e2
              simp only [Value.ownBlock, Option.some.injEq] at e
              subst e
              rcases G6.out with h | h
              · exact hA.out _ h e2
              · simp at h
                omega
            · exact ((hF.out.alloc _).alloc _).then F5.out (fun i hi e => absurd (own_base hO.out i e).1 (by omega))
          case measure => simp [intOf]; omega
        · have HU1 : Hid (useF (l.take (k + 1)) = xs) := hid (by rw [HUF.out]; unfold useF1; rw [if_neg hf])
          by_cases hc : 0 ≤ xc
          · have HU2 : Hid (useC j (l.take (k + 1)) = ins ys xc) := hid (by rw [HUC.out]; unfold useC1; rw [if_neg hf, if_pos hc])
            have hil := hid (ins_length ys xc)
            clear HUF HUC
            have M1 := heap_alloc_new (wr.alloc (.cells #[.int .i64 xs_, .bool xh, .int .i64 xf, .int .i64 xc] 63)) (.cells #[.int .i64 xc] 3)
            rw [show (wr.alloc (.cells #[.int .i64 xs_, .bool xh, .int .i64 xf, .int .i64 xc] 63)).heap.size = wr.heap.size + 1 by simp] at M1
            have hI := hid (insert_n (own_fr hP.out (((Fr.refl (fun _ => False) wr).alloc (.cells #[.int .i64 xs_, .bool xh, .int .i64 xf, .int .i64 xc] 63)).alloc (.cells #[.int .i64 xc] 3)) (fun _ _ e => e)) hn2.out (by simp; omega) (by omega) xc _ M1)
            have M2 := hid M1
            clear M1
            go_wp2_with (go_at_call 35; refine hI.out.mono ?_; rintro e w5 ⟨g5, cap5, rfl, o5, f5, g6⟩; have O5 := hid o5; have F5 := hid f5; have G6 := hid g6; clear o5 f5 g6)
            go_roundw
            case rel =>
              refine ⟨k + 1, a, cc, some ⟨g5, 0, none⟩, cap5, n1, (ins ys xc).length, by omega, by go_num, hid (by rw [HU1.out]; exact hn1.out), hid (by rw [HU2.out]), by omega, (by have := hil.out; have := hn2.out; omega), rfl, rfl, hid ?_, hid (by rw [HU2.out]; exact O5.out), hid ?_, hid ?_⟩
              · rw [HU1.out]
                exact own_fr (own_fr hO.out (((Fr.refl (fun _ => False) wr).alloc _).alloc _) (fun _ _ e => e)) F5.out (fun i e e2 => hA.out i e e2)
              · intro i e2 e
                have hb := own_base hO.out i e2
                simp only [Value.ownBlock, Option.some.injEq] at e
                subst e
                rcases G6.out with h | h
                · exact hA.out _ e2 h
                · simp at h
                  omega
              · exact ((hF.out.alloc _).alloc _).then F5.out (fun i hi e => absurd (own_base hP.out i e).1 (by omega))
            case measure => simp [intOf]; omega
          · have HU2 : Hid (useC j (l.take (k + 1)) = j.G.foldl (useG1 j ⟨xs_, xh, xf, xc⟩) ys) := hid (by rw [HUC.out]; unfold useC1; rw [if_neg hf, if_neg hc])
            clear HUF HUC
            have HGL := HJ2.out.lG
            have HJr := hid (HJ2.out.quiet hF.out)
            have j4 := row_cell HJr.out.hJ 4
            simp only [List.getElem?_cons_zero, List.getElem?_cons_succ] at j4
            rw [nats_length] at j4
            have hJw := row_lt HJr.out.hJ
            have HB := hid (heap_alloc_new wr (.cells #[.int .i64 xs_, .bool xh, .int .i64 xf, .int .i64 xc] 63))
            have HO1 := hid (own_fr hO.out ((Fr.refl (fun _ => False) wr).alloc (.cells #[.int .i64 xs_, .bool xh, .int .i64 xf, .int .i64 xc] 63)) (fun _ _ e => e))
            have HP1 := hid (own_fr hP.out ((Fr.refl (fun _ => False) wr).alloc (.cells #[.int .i64 xs_, .bool xh, .int .i64 xf, .int .i64 xc] 63)) (fun _ _ e => e))
            have HF1 := hid (hF.out.alloc (.cells #[.int .i64 xs_, .bool xh, .int .i64 xf, .int .i64 xc] 63))
            go_wp2
            clear hO hP hF HJr j4 hJw d1 d2 d3 d4
            generalize wr.heap.size = B0 at HB z4 ⊢
            go_loopw [12, 52] (fun s12 s52 wi => ∃ (m : Nat) (b2 : Option Addr) (c4 n2 : Nat), m ≤ j.G.length ∧ s52 = .int .i64 m ∧ Hid (n2 = ((j.G.take m).foldl (useG1 j ⟨xs_, xh, xf, xc⟩) ys).length) ∧ n2 ≤ 20 * k + m ∧ s12 = .slice b2 n2 c4 ∧ Hid (wi.ownsRow wc.heap.size 3 1 (.slice b2 n2 c4) n2 (ints ((j.G.take m).foldl (useG1 j ⟨xs_, xh, xf, xc⟩) ys))) ∧ Hid (wi.ownsRow wc.heap.size 3 1 (.slice a n1 cc) n1 (ints xs)) ∧ Hid (∀ i, (Value.slice a n1 cc).ownBlock = some i → (Value.slice b2 n2 c4).ownBlock ≠ some i) ∧ Hid (Fr (fun _ => False) wc wi) ∧ Hid (wi.heap[B0]? = some (.cells #[.int .i64 xs_, .bool xh, .int .i64 xf, .int .i64 xc] 63 (0, 0)))) (fun _ s52 _ => j.G.length - (intOf s52).toNat)
            case atStart => exact ⟨0, b2, c4, n2, Nat.zero_le _, rfl, hn2, by omega, rfl, HP1, HO1, hA, HF1, HB⟩
            case round =>
              clear hA HO1 HP1 HF1 HB hn2 hb2
              obtain ⟨m, b5, c6, n5, hm, rfl, hn5, hb5, rfl, hP, hO, hA, hF, hB⟩ := hrel
              have z5 := hF.out.size
              have HJi := hid (HJ2.out.quiet hF.out)
              have u0 := row_cell (l := [_, _, _]) ((hF.out.block _ (row_lt X0.out) (fun e => e)).trans X0.out) 0
              have x0 := row_cell (l := [_, _, _, _]) hB.out 0
              simp only [List.getElem?_cons_zero, List.getElem?_cons_succ] at u0 x0
              by_cases hlm : m < j.G.length
              · have hGm := HJi.out.hG
                rw [nats_length] at hGm
                obtain ⟨b6, o6, rfl, _, _, g1⟩ := reads_one hGm m (by rw [nats_length]; exact hlm)
                rw [nats_get j.G m hlm] at g1
                have him := HJi.out.inG j.G[m] (List.getElem_mem hlm)
                have HST : Hid ((j.G.take (m + 1)).foldl (useG1 j ⟨xs_, xh, xf, xc⟩) ys = useG1 j ⟨xs_, xh, xf, xc⟩ ((j.G.take m).foldl (useG1 j ⟨xs_, xh, xf, xc⟩) ys) j.G[m]) := hid (fold_take _ _ j.G m hlm)
                generalize j.G[m] = i at g1 him HST
                have hcl := clAt_get HJi.out.rb.cls him
                obtain ⟨a', c', e', _, _, h3⟩ := HJi.out.rb.hc
                injection e' with e1 _ e4
                subst e1 e4
                obtain ⟨b7, o7, rfl, _, hbl, hx⟩ := h3 (by omega)
                clear h3
                have g5 := hx i him 5 _ rfl
                clear hx
                have HGV : Hid ((clAt j.c i).gives = ms[i].x.gives) := hid (by rw [hcl])
                clear hcl
                generalize ms[i].x.gives = gv5 at g5 HGV
                have HLM : ms.length ≤ 20 := HJi.out.lm
                generalize (j.G.take m).foldl (useG1 j ⟨xs_, xh, xf, xc⟩) ys = zs at hn5 hP HST
                by_cases he : gv5 = xs_
                · have HU : Hid ((j.G.take (m + 1)).foldl (useG1 j ⟨xs_, xh, xf, xc⟩) ys = ins zs i) := hid (by rw [HST.out]; unfold useG1; rw [if_pos (by rw [HGV.out]; simpa using he)])
                  have hil := hid (ins_length zs i)
                  have hbb : (gv5 == xs_) = true := by simpa using he
                  have M1 := heap_alloc_new wr.drew (.cells #[.int .i64 (i : Int)] 3)
                  have hI := hid (insert_n (own_fr hP.out (((Fr.refl (fun _ => False) wr).drew).alloc (.cells #[.int .i64 (i : Int)] 3)) (fun _ _ e => e)) hn5.out (Nat.le_trans z5 (Nat.le_trans (Nat.le_succ _) (by rw [World.size_alloc]; exact Nat.le_refl _))) (by omega) (i : Int) _ M1)
                  have M2 := hid M1
                  clear M1 HST HGV he
                  go_wp2
                  refine still_tail 8 (by kernel_rfl) (by kernel_rfl) ?_
                  simp only [List.take_succ_cons, List.take_zero, List.drop_succ_cons, List.drop_zero]
                  repeat still_step
                  refine wpStill_nil ?_
                  go_wp2_with (go_at_call 35; refine hI.out.mono ?_; rintro e w5 ⟨g5, cap5, rfl, o5, f5, g6⟩; have O5 := hid o5; have F5 := hid f5; have G6 := hid g6; clear o5 f5 g6)
                  refine ⟨⟨m + 1, some ⟨g5, 0, none⟩, cap5, (ins zs i).length, by omega, by go_num, hid (by rw [HU.out]), (by have := hil.out; have := hn5.out; omega), rfl, hid (by rw [HU.out]; exact O5.out), hid ?_, hid ?_, hid ?_, hid ?_⟩, by simp [intOf]; omega⟩
                  · exact own_fr (own_fr hO.out (((Fr.refl (fun _ => False) wr).drew).alloc _) (fun _ _ e => e)) F5.out (fun i e e2 => hA.out i e e2)
                  · intro i e2 e
                    have hb := own_base hO.out i e2
                    simp only [Value.ownBlock, Option.some.injEq] at e
                    subst e
                    rcases G6.out with h | h
                    · exact hA.out _ e2 h
                    · rw [World.size_alloc] at h
                      have : wr.drew.heap.size = wr.heap.size := rfl
                      omega
                  · exact ((hF.out.drew).alloc _).then F5.out (fun i hi e => absurd (own_base hP.out i e).1 (by omega))
                  · refine (F5.out.block _ (by rw [World.size_alloc]; have := row_lt hB.out; have : wr.drew.heap.size = wr.heap.size := rfl; omega) (fun e => ?_)).trans ((Below.heap_alloc _ _ _ (row_lt hB.out)).trans hB.out)
                    obtain ⟨_, cs, e2⟩ := own_type hP.out e
                    rw [hB.out] at e2
                    injection e2 with e2
                    injection e2 with _ e2 _
                    exact absurd e2 (by decide)
                · have HU : Hid ((j.G.take (m + 1)).foldl (useG1 j ⟨xs_, xh, xf, xc⟩) ys = zs) := hid (by rw [HST.out]; unfold useG1; rw [if_neg (by rw [HGV.out]; simpa using he)])
                  have hbb : (gv5 == xs_) = false := by simpa using he
                  clear HST HGV he
                  go_wp2
                  refine still_tail 8 (by kernel_rfl) (by kernel_rfl) ?_
                  simp only [List.take_succ_cons, List.take_zero, List.drop_succ_cons, List.drop_zero]
                  repeat still_step
                  refine wpStill_nil ?_
                  go_wp2
                  refine ⟨⟨m + 1, b5, c6, n5, by omega, by go_num, hid (by rw [HU.out]; exact hn5.out), by omega, rfl, hid (by rw [HU.out]; exact hP.out), hO, hA, hid hF.out.drew, hB⟩, by simp [intOf]; omega⟩
              · obtain rfl : m = j.G.length := by omega
                clear hlm hm
                rw [List.take_length] at hP hn5
                rw [← HU2.out] at hP hn5
                rw [← HU1.out] at hO
                go_wp2
                refine ⟨⟨k + 1, a, cc, b5, c6, n1, n5, by omega, by go_num, hid (by rw [HU1.out]; exact hn1.out), hn5, by omega, by omega, rfl, rfl, hO, hP, hA, hF⟩, by simp [intOf]; omega⟩
      · obtain rfl : k = l.length := by omega
        clear hlt hk
        rw [List.take_length] at hO hP hn1 hn2
        go_wp2
        go_ret3
        exact ⟨a, b2, n1, n2, cc, c4, hn1.out, hn2.out, rfl, own_zero hO.out (by have := FF.out.size; omega), own_zero hP.out (by have := FF.out.size; omega), FF.out.trans hF.out⟩
end Go.Proofs.Ytfalhljidnpmgaa
