/- Decide. No condition beside the bounds. -/
import Derived.Test.YtfalhljidnpmgaaC1
import Derived.OwnWalk
set_option linter.unusedVariables false
set_option linter.unusedSimpArgs false
namespace Go.Proofs.Ytfalhljidnpmgaa
open Go.RowKit Go.Proofs.Statute Go.Maps

set_option maxRecDepth 100000 in
theorem wp_look1 {w : World} {b : Nat} {j : Jd} {kn : Nat → Bool} {ops : Array Oper} {rest : List Oper} {o : Oper} {a : Act} {Q : Exit → Act → World → Prop} (hg : o.guard = none) (m x : Operand) (hop : o.op = Op.lookup 82 m x false) (hm : a.eval m = .map (some b)) (h : Found w b j kn) (n : Nat) (hn : n ≤ 19) (hk : kn n = true) (hx : a.eval x = .int .i64 n) (v : Value) (hv : dval (j.fd n) = v)
    (hK : wpList Try.prog ops Q rest (a.put o.dst v) w) : wpList Try.prog ops Q (o :: rest) a w := by
  obtain ⟨c, D, h1, _, _, h2⟩ := h
  obtain ⟨e1, e2⟩ := h2 n hn
  rw [hk, if_pos rfl] at e2
  refine wpList_plain hg fun K' hK' => ?_
  obtain ⟨v', ps, hrun, hv'⟩ := h1.lookup (int_keyed Try.underlying3) Try.underlying82 (zero63 w) (zd := .held dzero) (zp := []) rfl (key_of n hn)
  rw [e2] at hv'
  have e3 : v' = v := by
    unfold RV at hv'
    injection hv' with hv'
    injection hv' with hv' _
    injection hv' with hv'
    rw [hv', hv]
  unfold Oper.wp
  simp [execOp, hop, hm, hx, hrun, Result.andThen]
  rw [e3]
  exact hK' _ _ hK
def upTo (j : Jd) (k : Nat) : List Fnd := (List.range k).map fun i : Nat => j.fd i
theorem upTo_succ (j : Jd) (k : Nat) : upTo j (k + 1) = upTo j k ++ [j.fd k] := by unfold upTo; rw [List.range_succ, List.map_append]; rfl
theorem upTo_length (j : Jd) (k : Nat) : (upTo j k).length = k := by simp [upTo]
theorem reads_one_new (w : World) (x : Fnd) : Reads (fun _ => True) (w.alloc (.cells #[.int .i64 x.says, .bool x.holds, .int .i64 x.fact, .int .i64 x.clause] 63)) 4 encD (.slice (some ⟨w.heap.size, 0, none⟩) 1 1) [x] := by
  refine ⟨_, 1, rfl, by simp, by omega, fun _ => ⟨w.heap.size, 0, rfl, trivial, by simp, fun i hi j u hu => ?_⟩⟩
  have : i = 0 := by simp at hi; exact hi
  subst this
  rw [cell_of_row _ _ _ _ _ _ (heap_alloc_new w _)]
  simpa [encD] using hu
theorem append_finds_n {w : World} {base n : Nat} {v : Value} {xs : List Fnd} {y : Fnd} {lv : Value} {K : Nat → Prop} (h : w.ownsRow base 63 4 v n (dcells xs)) (hn : n = xs.length) (hb : base ≤ w.heap.size) (hr : Reads K w 4 encD lv [y]) (hl : n ≤ 10000)
    {ops : Array Oper} {rest : List Oper} {o : Oper} {a : Act} {Q : Exit → Act → World → Prop} (hgd : o.guard = none) (s z : Operand) (ho : o.op = .call { callee := .builtin .append, args := #[s, z], argTypes := #[28, 28] })
    (hs : a.eval s = v) (hy : a.eval z = lv)
    (hh : ∀ g c w', w'.ownsRow base 63 4 (.slice (some ⟨g, 0, none⟩) (n + 1) c) (n + 1) (dcells (xs ++ [y])) → Fr (fun k => v.ownBlock = some k) w w' → wpList Try.prog ops Q rest (a.put o.dst (.slice (some ⟨g, 0, none⟩) (n + 1) c)) w') :
    wpList Try.prog ops Q (o :: rest) a w := by
  subst hn
  refine append_finds h hb hr (by simp; omega) (by simp) hgd s z ho hs hy ?_
  intro g c w' h1 h2 _
  exact hh g c w' h1 h2

def Decided (w : World) (c : Rb) (q : Qn) (e : Ending) (w' : World) : Prop :=
  ∃ lv, e = .returned (.tuple #[.bool ((jdOf c q).truth q.says), lv, .int .i64 0]) ∧ w'.ownsRow w.heap.size 63 4 lv ((jdOf c q).proof q.says).length (dcells ((jdOf c q).proof q.says)) ∧ Fr (fun _ => False) w w'
set_option maxRecDepth 100000 in
set_option maxHeartbeats 12800000 in
theorem decide_ok {K : Nat → Prop} {w : World} {cl rl fl : Value} {ms : List CM} {c : Rb} (h : RB K w cl rl fl ms c) (q : Qn) (hv : validB c = true) (ha : asksB q = true) :
    Calls Try.prog 12 #[.agg #[cl, rl, fl], .agg (qcells q)] w (Decided w c q) := by
  have H2 : Hid (RB (fun k => k < w.heap.size) ((w.alloc (.cells #[cl, rl, fl] 34)).alloc (.cells (qcells q) 37)) cl rl fl ms c) := hid ((h.mono (fun k hk _ => hk)).fr (((Fr.refl (fun _ => False) w).alloc _).alloc _) (fun _ _ e => e))
  have F0 : Hid (Fr (fun _ => False) w ((w.alloc (.cells #[cl, rl, fl] 34)).alloc (.cells (qcells q) 37))) := hid (((Fr.refl _ _).alloc _).alloc _)
  obtain ⟨a1, c1, rfl, _⟩ := h.hc
  obtain ⟨a2, e2, rfl, _⟩ := h.hr
  obtain ⟨a3, e3, rfl, _⟩ := h.hf
  clear h
  have HA := hid (open_ok H2.out q hv ha)
  have hsq : 0 ≤ q.says ∧ q.says ≤ 19 := by
    simp only [asksB, inB, Bool.and_eq_true, decide_eq_true_eq] at ha
    omega
  obtain ⟨N, hN⟩ := Int.eq_ofNat_of_zero_le hsq.1
  have HQ : Hid (qcells q = #[.int .i64 q.thing, .int .i64 q.says, .int .i64 q.sec, .int .i64 q.known]) := hid rfl
  rw [HQ.out] at HA F0 ⊢
  have hN2 : N ≤ 19 := by omega
  have HD : Hid (Decided w c q = fun e w' => ∃ lv, e = .returned (.tuple #[.bool ((jdOf c q).truth N), lv, .int .i64 0]) ∧ w'.ownsRow w.heap.size 63 4 lv ((jdOf c q).proof N).length (dcells ((jdOf c q).proof N)) ∧ Fr (fun _ => False) w w') := hid (by unfold Decided; rw [hN])
  have hq1 : ∀ (w1 : World), Fr (fun _ => False) ((w.alloc (.cells #[.slice a1 ms.length c1, .slice a2 c.rps.length e2, .slice a3 c.fcs.length e3] 34)).alloc (.cells #[.int .i64 q.thing, .int .i64 q.says, .int .i64 q.sec, .int .i64 q.known] 37)) w1 → w1.cell? ⟨w.heap.size + 1, 1, none⟩ = some (.int .i64 N) := fun w1 f1 => by
    rw [f1.cells _ _ (by simp)]
    have := alloc_cell (w.alloc (.cells #[.slice a1 ms.length c1, .slice a2 c.rps.length e2, .slice a3 c.fcs.length e3] 34)) #[.int .i64 q.thing, .int .i64 q.says, .int .i64 q.sec, .int .i64 q.known] 37 (w.heap.size + 1) (by simp) 1
    rw [this, hN]
    rfl
  have HQ1 := hid hq1
  clear hq1 H2 HQ hsq hv ha hN
  have HOP : Hid (∀ e w', Opened ((w.alloc (.cells #[.slice a1 ms.length c1, .slice a2 c.rps.length e2, .slice a3 c.fcs.length e3] 34)).alloc (.cells #[.int .i64 q.thing, .int .i64 q.says, .int .i64 q.sec, .int .i64 q.known] 37)) (.slice a1 ms.length c1) (.slice a2 c.rps.length e2) (.slice a3 c.fcs.length e3) ms c q e w' → ∃ J b fv gv, e = .returned (.tuple #[.pointer (some ⟨J, 0, none⟩), .int .i64 0]) ∧ JW (fun k => k < w'.heap.size ∧ k ≠ b) w' J b (.slice a1 ms.length c1) (.slice a2 c.rps.length e2) (.slice a3 c.fcs.length e3) fv gv ms (jdOf c q) (fun _ => false) ∧ Fr (fun _ => False) ((w.alloc (.cells #[.slice a1 ms.length c1, .slice a2 c.rps.length e2, .slice a3 c.fcs.length e3] 34)).alloc (.cells #[.int .i64 q.thing, .int .i64 q.says, .int .i64 q.sec, .int .i64 q.known] 37)) w' ∧ w.heap.size + 2 ≤ b) := hid (fun e w' h => by
    obtain ⟨J, b, fv, gv, h1, h2, h3, h4⟩ := h
    exact ⟨J, b, fv, gv, h1, h2, h3, by simpa using h4⟩)
  rw [HD.out]
  generalize hj : jdOf c q = j at HOP ⊢
  clear hj
  go_enter Try.func12, Try.ntmps12
  go_wp2_with (go_at_call 30; refine HA.out.mono ?_; rintro e w1 h1; obtain ⟨J, b, fv, gv, rfl, hj1, f1, hb⟩ := HOP.out e w1 h1; have x1 := HQ1.out w1 f1; have HJ := hid hj1; have F1 := hid (F0.out.trans f1); have hsz := f1.size; clear hj1 f1 h1)
  have z1 : w.heap.size + 2 ≤ w1.heap.size := by simpa using hsz
  have z0 : w.heap.size + 1 < w1.heap.size := by omega
  have zb : b < w1.heap.size := HJ.out.map.lt
  clear hsz HOP HA HQ1 HD
  go_loopw [9, 10, 26] (fun s9 _ s26 wr => ∃ (k : Nat) (kn : Nat → Bool) (a : Option Addr) (cc : Nat), k ≤ N + 1 ∧ s26 = .int .i64 k ∧ s9 = .slice a k cc ∧ Hid (wr.ownsRow w1.heap.size 63 4 (.slice a k cc) k (dcells (upTo j k))) ∧ Hid (Found wr b j kn) ∧ Hid (Fr (fun i => i = b) w1 wr)) (fun _ _ s26 _ => N + 1 - (intOf s26).toNat)
  case atStart => exact ⟨0, fun _ => false, none, 0, Nat.zero_le _, rfl, rfl, hid (World.ownsRow_nil _ _ _ _), hid HJ.out.map, hid (Fr.refl _ _)⟩
  case round =>
    obtain ⟨k, kn, a, cc, hk, rfl, rfl, hO, hM, hF⟩ := hrel
    have z3 := hF.out.size
    have HJr := hid (HJ.out.fr hF.out hM.out)
    have j5 := row_cell HJr.out.hJ 5
    have y1 := (hF.out.cell (k := w.heap.size + 1) z0 (by omega) 1).trans x1
    simp only [List.getElem?_cons_zero, List.getElem?_cons_succ] at j5
    have hJb : J ≠ b := HJ.out.kJ.2
    have hJw := row_lt HJr.out.hJ
    by_cases hlt : k < N + 1
    · have HSO := hid (so_any k (by omega) _ wr J b _ _ _ _ _ kn HJr.out)
      have hk19 : k ≤ 19 := by omega
      obtain ⟨s, t, u, v, hx⟩ : ∃ s t u v, j.fd k = ⟨s, t, u, v⟩ := ⟨_, _, _, _, rfl⟩
      have HX := hid hx
      have HUP := hid (upTo_succ j k)
      have HLN := hid (upTo_length j k)
      clear hx
      generalize j.truth k = T at HSO
      go_wp2_with (first | (go_at_call 31; refine HSO.out.mono ?_; rintro e w2 ⟨rfl, kn2, m2, f2, s2, t2, k2⟩; have i5 := (f2.cell hJw hJb 5).trans j5; have M2 := hid m2; have F2 := hid f2; have K2 := hid k2; have O2 := hid (own_fr hO.out f2 (fun i hi e => by have := own_base hO.out i hi; omega)); clear m2 f2 s2 t2 k2) | (at_lookup; refine wp_look1 rfl (.tmp 36) (.tmp 37) rfl (by rfl) M2.out k hk19 K2.out (by rfl) (.agg #[.int .i64 s, .bool t, .int .i64 u, .int .i64 v]) (by rw [HX.out]; rfl) ?_) | (refine append_finds_n (xs := upTo j k) (y := ⟨s, t, u, v⟩) (O2.out.alloc _) HLN.out.symm (by have := F2.out.size; simp; omega) (reads_one_new w2 ⟨s, t, u, v⟩) (by omega) rfl (.tmp 32) (.tmp 39) rfl (by rfl) (by rfl) ?_; intro g3 c3 w3 h3 f3; have H3 := hid h3; have F3 := hid f3; clear h3 f3))
      refine ⟨⟨k + 1, kn2, some ⟨g3, 0, none⟩, c3, by omega, by go_num, rfl, hid ?_, hid ?_, hid ?_⟩, by simp [intOf]; omega⟩
      · rw [HUP.out, HX.out]
        exact H3.out
      · refine (M2.out.fr ((Fr.refl (fun _ => False) _).alloc _) (fun e => e)).fr F3.out (fun e => ?_)
        have := own_base O2.out b e
        omega
      · exact ((hF.out.trans F2.out).alloc _).then F3.out (fun i hi e => by have := own_base O2.out i e; omega)
    · obtain rfl : k = N + 1 := by omega
      clear hlt hk
      obtain ⟨g0, cap0, heq, _, _⟩ := hO.out.form (by omega)
      injection heq with ha _ hcc
      subst ha hcc
      have HSO := hid (so_any N (by omega) _ wr J b _ _ _ _ _ kn HJr.out)
      go_wp2_with (first | (go_at_call 31; refine HSO.out.mono ?_; rintro e w2 ⟨rfl, kn2, m2, f2, s2, t2, k2⟩; have M2 := hid m2; have F2 := hid (hF.out.trans f2); have O2 := hid (own_fr hO.out f2 (fun i hi e => by have := own_base hO.out i hi; omega)); clear m2 f2 s2 t2 k2))
      clear hO hM hF HJr j5 y1 HSO
      have HG0 : Hid (greedy (j.proves N (j.truth N)) N (upTo j (N + 1)) = j.proof N) := hid rfl
      have HU := hid (upTo_length j (N + 1))
      have e9 : ((N : Int) + 1 - 2) = (N : Int) - 1 := by omega
      go_loopw [9, 12, 13] (fun s9 s12 _ wr => ∃ (m : Nat) (l : List Fnd) (g cc n : Nat) (kn : Nat → Bool), m ≤ N ∧ s12 = .int .i64 ((m : Int) - 1) ∧ s9 = .slice (some ⟨g, 0, none⟩) n cc ∧ n = l.length ∧ m + 1 ≤ n ∧ n ≤ N + 1 ∧ Hid (wr.ownsRow w1.heap.size 63 4 (.slice (some ⟨g, 0, none⟩) n cc) n (dcells l)) ∧ Hid (Found wr b j kn) ∧ Hid (Fr (fun i => i = b) w1 wr) ∧ Hid (greedy (j.proves N (j.truth N)) m l = j.proof N)) (fun _ s12 _ _ => (intOf s12 + 1).toNat)
      case atStart => exact ⟨N, upTo j (N + 1), g0, cc, N + 1, kn2, by omega, by rw [e9], rfl, HU.out.symm, by omega, by omega, O2, M2, F2, HG0⟩
      case round =>
        clear e9
        obtain ⟨m, l, g, cc3, n, kn3, hm, rfl, rfl, hn, hmn, hnN, hO, hM, hF, hG⟩ := hrel
        subst hn
        have z3 := hF.out.size
        have HJr := hid (HJ.out.fr hF.out hM.out)
        have y1 := (hF.out.cell (k := w.heap.size + 1) z0 (by omega) 1).trans x1
        cases m with
        | zero =>
          have e0 : (((0 : Nat) : Int) - 1) = -1 := by omega
          rw [e0]
          clear e0
          have HLQ : Hid (l = j.proof N) := hid hG.out
          go_wp2
          go_ret3
          refine ⟨.slice (some ⟨g, 0, none⟩) l.length cc3, by simp, ?_, F1.out.then hF.out (fun i hi e => by omega)⟩
          have := own_zero hO.out (base' := w.heap.size) (by omega)
          rw [← HLQ.out]
          exact this
        | succ m =>
          have e0 : (((m + 1 : Nat) : Int) - 1) = (m : Int) := by omega
          rw [e0]
          clear e0
          have HRD : Hid (Reads (fun _ => True) wr 4 encD (.slice (some ⟨g, 0, none⟩) l.length cc3) l) := hid (by
            exact own_reads (fun _ => rfl) hO.out (fun _ _ => trivial))
          have HCL : Hid (Calls Try.prog 33 #[.slice (some ⟨g, 0, none⟩) l.length cc3] wr (Cloned wr l)) := hid (clone_any HRD.out (by omega) (by omega))
          have HSZ : Hid ((l.eraseIdx m).length = l.length - 1) := hid (by
            have : m < l.length := by omega
            rw [List.length_eraseIdx_of_lt this])
          have HSZ2 : Hid ((l.eraseIdx m).length = l.length - 1) := HSZ
          have HLL : Hid (l.length ≤ 100000) := hid (by omega)
          have HML : Hid (m + 1 < l.length) := hid (by omega)
          have HGS : Hid (greedy (j.proves N (j.truth N)) (m + 1) l = greedy (j.proves N (j.truth N)) m (if j.proves N (j.truth N) (l.eraseIdx m) then l.eraseIdx m else l)) := hid rfl
          generalize hp : j.proves N (j.truth N) (l.eraseIdx m) = pv at HGS
          have HPV := hid hp
          clear hp
          cases pv with
          | true =>
            go_wp2_with (first | (go_at_call 33; refine HCL.out.mono ?_; rintro e w3 ⟨g3, c3, rfl, h3, f3⟩; have B3 := own_base h3 g3 rfl; have H3 := hid h3; have F3 := hid f3; clear h3 f3) | (go_at_call 32; refine (delete_any H3.out rfl HLL.out m HML.out).mono ?_; rintro e w4 ⟨rfl, h4, f4⟩; have H4 := hid h4; have F4 : Hid (Fr (fun _ => False) wr w4) := hid (F3.out.then f4 (fun i hi e => by omega)); have yy := (F4.out.cell (k := w.heap.size + 1) (by omega) (fun e => e) 1).trans y1; clear f4 h4) | (go_at_call 34; refine (proves_any (HJr.out.quiet F4.out) (K2 := fun _ => True) (own_reads (fun _ => rfl) (by rw [HSZ2.out]; exact H4.out) (fun _ _ => trivial)) (by rw [HSZ2.out]; have := HLL.out; omega) N (j.truth N)).mono ?_; rw [HPV.out]; rintro e w5 ⟨rfl, f5⟩; have F5 := hid (F4.out.trans f5); have H5 := hid (own_fr H4.out f5 (fun _ _ e => e)); clear f5))
            go_roundw
            case rel => exact ⟨m, l.eraseIdx m, g3, c3, l.length - 1, kn3, by omega, by simp, rfl, HSZ2.out.symm, by omega, by omega, hid (own_zero H5.out (by omega)), hid (hM.out.fr F5.out (fun e => e)), hid (hF.out.trans F5.out.non), hid (by rw [← hG.out, HGS.out]; rfl)⟩
            case measure => simp [intOf]
          | false =>
            go_wp2_with (first | (go_at_call 33; refine HCL.out.mono ?_; rintro e w3 ⟨g3, c3, rfl, h3, f3⟩; have B3 := own_base h3 g3 rfl; have H3 := hid h3; have F3 := hid f3; clear h3 f3) | (go_at_call 32; refine (delete_any H3.out rfl HLL.out m HML.out).mono ?_; rintro e w4 ⟨rfl, h4, f4⟩; have H4 := hid h4; have F4 : Hid (Fr (fun _ => False) wr w4) := hid (F3.out.then f4 (fun i hi e => by omega)); have yy := (F4.out.cell (k := w.heap.size + 1) (by omega) (fun e => e) 1).trans y1; clear f4 h4) | (go_at_call 34; refine (proves_any (HJr.out.quiet F4.out) (K2 := fun _ => True) (own_reads (fun _ => rfl) (by rw [HSZ2.out]; exact H4.out) (fun _ _ => trivial)) (by rw [HSZ2.out]; have := HLL.out; omega) N (j.truth N)).mono ?_; rw [HPV.out]; rintro e w5 ⟨rfl, f5⟩; have F5 := hid (F4.out.trans f5); have H5 := hid (own_fr H4.out f5 (fun _ _ e => e)); clear f5))
            go_roundw
            case rel => exact ⟨m, l, g, cc3, l.length, kn3, by omega, by simp, rfl, rfl, by omega, by omega, hid (own_fr hO.out F5.out (fun _ _ e => e)), hid (hM.out.fr F5.out (fun e => e)), hid (hF.out.trans F5.out.non), hid (by rw [← hG.out, HGS.out]; rfl)⟩
            case measure => simp [intOf]
end Go.Proofs.Ytfalhljidnpmgaa
