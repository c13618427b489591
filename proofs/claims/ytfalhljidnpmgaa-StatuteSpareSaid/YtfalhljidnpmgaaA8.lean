/- Applies. No condition beside the bounds. -/
import Derived.Test.YtfalhljidnpmgaaA7
import Derived.OwnWalk
set_option linter.unusedVariables false
set_option linter.unusedSimpArgs false
namespace Go.Proofs.Ytfalhljidnpmgaa
open Go.RowKit Go.Proofs.Statute

def nats (l : List Nat) : List Int := l.map fun i : Nat => (i : Int)
theorem nats_length (l : List Nat) : (nats l).length = l.length := by simp [nats]
def upF (c : Rb) (q : Qn) (k : Nat) : List Nat := (List.range k).filter fun i => statesB q (fcAt c i)
def upG (c : Rb) (q : Qn) (k : Nat) : List Nat := (List.range k).filter fun i => rulesB c q i
theorem up_step (p : Nat → Bool) (k : Nat) : (List.range (k + 1)).filter p = (List.range k).filter p ++ if p k then [k] else [] := by
  rw [List.range_succ, List.filter_append]
  cases h : p k <;> simp [h]
theorem up_len (p : Nat → Bool) (k : Nat) : ((List.range k).filter p).length ≤ k := Nat.le_trans (List.length_filter_le _ _) (by simp)
theorem ins_up (p : Nat → Bool) (k : Nat) (h : p k = true) : ins (nats ((List.range k).filter p)) k = nats ((List.range (k + 1)).filter p) := by
  rw [up_step, h, if_pos rfl]
  have e : nats ((List.range k).filter p ++ [k]) = nats ((List.range k).filter p) ++ [(k : Int)] := by simp [nats]
  rw [e]
  refine ins_last _ _ ?_ ?_
  · unfold nats
    rw [List.pairwise_map]
    exact (List.Pairwise.filter _ List.pairwise_lt_range).imp (fun h => by omega)
  · intro y hy
    simp only [nats, List.mem_map, List.mem_filter, List.mem_range] at hy
    obtain ⟨j, ⟨hj, _⟩, rfl⟩ := hy
    omega

def App (w : World) (c : Rb) (q : Qn) (e : Ending) (w' : World) : Prop :=
  ∃ fv gv, e = .returned (.tuple #[fv, gv, .int .i64 0]) ∧ w'.ownsRow w.heap.size 3 1 fv (factsOf c q).length (ints (nats (factsOf c q))) ∧ w'.ownsRow w.heap.size 3 1 gv (clausesOf c q).length (ints (nats (clausesOf c q))) ∧
    (∀ k, fv.ownBlock = some k → gv.ownBlock ≠ some k) ∧ Fr (fun _ => False) w w'
theorem own_old {w4 : World} {base : Nat} {v : Value} {n : Nat} {e : TypeId} {sz : Nat} {xs : List Value} (h : w4.ownsRow base e sz v n xs) {i : Nat} (hi : i < w4.heap.size) (e : v.ownBlock = some i) : base ≤ i ∧ i < w4.heap.size := own_base h i e
theorem insert_n {w : World} {base n : Nat} {v : Value} {xs : List Int} (h : w.ownsRow base 3 1 v n (ints xs)) (hn : n = xs.length) (hb : base ≤ w.heap.size) (hl : n ≤ 100000) (x : Int) (m : Nat) (hm : w.heap[m]? = some (.cells #[.int .i64 x] 3 (0, 0))) :
    Calls Try.prog 35 #[v, .slice (some ⟨m, 0, none⟩) 1 1] w (Inserted base w v (ins xs x)) := by
  subst hn
  exact insert_any h hb hl x m hm
theorem valid_fc {c : Rb} (h : validB c = true) : ∀ x ∈ c.fcs, S64 x.st ∧ S64 x.kt := by
  intro x hx
  simp only [validB, Bool.and_eq_true, List.all_eq_true] at h
  have := h.2 x hx
  simp only [fcB, spellB, secB, inB, Bool.and_eq_true, decide_eq_true_eq] at this
  unfold S64
  omega
theorem valid_cl {c : Rb} (h : validB c = true) : ∀ x ∈ c.cls, S64 x.to := by
  intro x hx
  simp only [validB, Bool.and_eq_true, List.all_eq_true] at h
  have := h.1.1.2 x hx
  simp only [clB, spellB, secB, inB, Bool.and_eq_true, decide_eq_true_eq] at this
  unfold S64
  omega
set_option maxRecDepth 100000 in
set_option maxHeartbeats 6400000 in
theorem applies_bad {K : Nat → Prop} {w : World} {cl rl fl : Value} {ms : List CM} {c : Rb} (h : RB K w cl rl fl ms c) (q : Qn) (hb : (validB c && asksB q) = false) :
    Calls Try.prog 22 #[.agg #[cl, rl, fl], .agg (qcells q)] w fun e w' => e = .returned (.tuple #[.slice none 0 0, .slice none 0 0, .int .i64 80]) ∧ Fr (fun _ => False) w w' := by
  obtain ⟨qt, qs, qa, qk⟩ := q
  have H2 : Hid (RB (fun k => k < w.heap.size) ((w.alloc (.cells #[cl, rl, fl] 34)).alloc (.cells #[.int .i64 qt, .int .i64 qs, .int .i64 qa, .int .i64 qk] 37)) cl rl fl ms c) := hid ((h.mono (fun k hk _ => hk)).fr (((Fr.refl (fun _ => False) w).alloc _).alloc _) (fun _ _ e => e))
  obtain ⟨a1, c1, rfl, _⟩ := h.hc
  obtain ⟨a2, e2, rfl, _⟩ := h.hr
  obtain ⟨a3, e3, rfl, _⟩ := h.hf
  clear h
  unfold qcells
  dsimp only
  generalize hA : validB c = A at hb
  generalize hB : asksB ⟨qt, qs, qa, qk⟩ = B at hb
  have HA := hid hA
  have HB := hid hB
  clear hA hB
  cases A with
  | false =>
    clear hb
    go_enter Try.func22, Try.ntmps22
    go_wp2_with (go_at_call 25; refine (valid_b H2.out _ HA.out).mono ?_; rintro e w1 ⟨rfl, f1⟩)
    go_ret3
    exact ⟨by simp, (((Fr.refl _ _).alloc _).alloc _).trans f1⟩
  | true =>
    cases B with
    | true => simp at hb
    | false =>
      clear hb
      go_enter Try.func22, Try.ntmps22
      go_wp2_with (first | (go_at_call 25; refine (valid_b H2.out _ HA.out).mono ?_; rintro e w1 ⟨rfl, f1⟩; have r1 := f1.cells; have z1 : w.heap.size + 1 < w1.heap.size := by have := f1.size; simp at this; omega) | (go_at_call 26; refine (asks_b ⟨qt, qs, qa, qk⟩ _ _ HB.out).mono ?_; rintro e w2 ⟨rfl, f2⟩))
      go_ret3
      exact ⟨by simp, ((((Fr.refl _ _).alloc _).alloc _).trans f1).trans f2⟩

set_option maxRecDepth 100000 in
set_option maxHeartbeats 6400000 in
theorem applies_ok {K : Nat → Prop} {w : World} {cl rl fl : Value} {ms : List CM} {c : Rb} (h : RB K w cl rl fl ms c) (q : Qn) (hv : validB c = true) (ha : asksB q = true) :
    Calls Try.prog 22 #[.agg #[cl, rl, fl], .agg (qcells q)] w (App w c q) := by
  obtain ⟨qt, qs, qa, qk⟩ := q
  have H2 : Hid (RB (fun k => k < w.heap.size) ((w.alloc (.cells #[cl, rl, fl] 34)).alloc (.cells #[.int .i64 qt, .int .i64 qs, .int .i64 qa, .int .i64 qk] 37)) cl rl fl ms c) := hid ((h.mono (fun k hk _ => hk)).fr (((Fr.refl (fun _ => False) w).alloc _).alloc _) (fun _ _ e => e))
  have l1 := h.l1
  have l3 := h.l3
  obtain ⟨a1, c1, rfl, hc1, hc2, _⟩ := h.hc
  obtain ⟨a2, e2, rfl, _⟩ := h.hr
  obtain ⟨a3, e3, rfl, hf1, hf2, _⟩ := h.hf
  clear h
  have HV := hid hv
  have HA := hid ha
  have HFC := hid (valid_fc hv)
  have HLV : Hid (c.fcs.length ≤ 20 ∧ c.cls.length ≤ 20) := hid (by simp only [validB, Bool.and_eq_true, decide_eq_true_eq] at hv; omega)
  have HCL := hid (valid_cl hv)
  have B0 : Hid (((w.alloc (.cells #[.slice a1 ms.length c1, .slice a2 c.rps.length e2, .slice a3 c.fcs.length e3] 34)).alloc (.cells #[.int .i64 qt, .int .i64 qs, .int .i64 qa, .int .i64 qk] 37)).heap[w.heap.size]? = some (.cells [.slice a1 ms.length c1, .slice a2 c.rps.length e2, .slice a3 c.fcs.length e3].toArray 34 (0, 0))) := hid ((Below.heap_alloc _ _ _ (by simp)).trans (heap_alloc_new w _))
  have B1 : Hid (((w.alloc (.cells #[.slice a1 ms.length c1, .slice a2 c.rps.length e2, .slice a3 c.fcs.length e3] 34)).alloc (.cells #[.int .i64 qt, .int .i64 qs, .int .i64 qa, .int .i64 qk] 37)).heap[w.heap.size + 1]? = some (.cells [.int .i64 qt, .int .i64 qs, .int .i64 qa, .int .i64 qk].toArray 37 (0, 0))) := hid (by
    have := heap_alloc_new (w.alloc (.cells #[.slice a1 ms.length c1, .slice a2 c.rps.length e2, .slice a3 c.fcs.length e3] 34)) (.cells #[.int .i64 qt, .int .i64 qs, .int .i64 qa, .int .i64 qk] 37)
    simpa using this)
  have F0 : Hid (Fr (fun _ => False) w ((w.alloc (.cells #[.slice a1 ms.length c1, .slice a2 c.rps.length e2, .slice a3 c.fcs.length e3] 34)).alloc (.cells #[.int .i64 qt, .int .i64 qs, .int .i64 qa, .int .i64 qk] 37))) := hid (((Fr.refl _ _).alloc _).alloc _)
  clear hv ha
  unfold qcells
  dsimp only
  go_enter Try.func22, Try.ntmps22
  go_wp2_with (first | (go_at_call 25; refine (valid_b H2.out _ HV.out).mono ?_; rintro e w1 ⟨rfl, f1⟩; have r1 := f1.cells; have z1 : w.heap.size + 1 < w1.heap.size := by have := f1.size; simp at this; omega) | (go_at_call 26; refine (asks_b ⟨qt, qs, qa, qk⟩ _ _ HA.out).mono ?_; rintro e w2 ⟨rfl, f2⟩; have R2 := hid ((H2.out.fr f1 (fun _ _ e => e)).fr f2 (fun _ _ e => e)); have X0 := (f2.block w.heap.size (by omega) (fun e => e)).trans ((f1.block w.heap.size (by simp <;> omega) (fun e => e)).trans B0.out); have X1 := (f2.block (w.heap.size + 1) (by omega) (fun e => e)).trans ((f1.block (w.heap.size + 1) (by simp <;> omega) (fun e => e)).trans B1.out); have F2 := hid ((F0.out.trans f1).trans f2); have x2 := row_cell X0 2; clear f1 f2 r1 z1))
  clear H2 B0 B1 F0
  have HX0 := hid X0
  have HX1 := hid X1
  clear X0 X1 x2
  have z2 : w.heap.size + 1 < w2.heap.size := row_lt HX1.out
  go_loopw [7, 23] (fun s7 s23 wr => ∃ (k : Nat) (a : Option Addr) (cc : Nat), k ≤ c.fcs.length ∧ s23 = .int .i64 k ∧ s7 = .slice a (upF c ⟨qt, qs, qa, qk⟩ k).length cc ∧ Hid (wr.ownsRow w2.heap.size 3 1 (.slice a (upF c ⟨qt, qs, qa, qk⟩ k).length cc) (upF c ⟨qt, qs, qa, qk⟩ k).length (ints (nats (upF c ⟨qt, qs, qa, qk⟩ k)))) ∧ Hid (Fr (fun _ => False) w2 wr)) (fun _ s23 _ => c.fcs.length - (intOf s23).toNat)
  case atStart => exact ⟨0, none, 0, Nat.zero_le _, rfl, rfl, hid (World.ownsRow_nil _ _ _ _), hid (Fr.refl _ _)⟩
  case round =>
    obtain ⟨k, a, cc, hk, rfl, rfl, hO, hF⟩ := hrel
    have z3 := hF.out.size
    by_cases hlt : k < c.fcs.length
    · obtain ⟨a', c', e', _, _, h3⟩ := R2.out.hf
      injection e' with e1 _ e4
      subst e1 e4
      obtain ⟨b, o, rfl, hKb, hbl, hx⟩ := h3 (by omega)
      clear h3
      have hxx : ∀ j u, (encF c.fcs[k])[j]? = some u → wr.cell? ⟨b, o + k * 6 + j, none⟩ = some u := fun j u hu => (hF.out.cell hbl (fun e => e) _).trans (hx k hlt j u hu)
      have c0 := hxx 0 _ rfl
      have c1' := hxx 1 _ rfl
      have c2' := hxx 2 _ rfl
      have c3' := hxx 3 _ rfl
      have c4' := hxx 4 _ rfl
      have c5' := hxx 5 _ rfl
      rw [Nat.add_zero] at c0
      clear hx hxx
      have hS := HFC.out _ (List.getElem_mem hlt)
      have hfa : fcAt c k = c.fcs[k] := by unfold fcAt; simp [hlt]
      have HUP := hid (ins_up (fun i => statesB ⟨qt, qs, qa, qk⟩ (fcAt c i)) k)
      have HNO : Hid (statesB ⟨qt, qs, qa, qk⟩ (fcAt c k) = false → upF c ⟨qt, qs, qa, qk⟩ (k + 1) = upF c ⟨qt, qs, qa, qk⟩ k) := hid (fun h => by unfold upF; rw [up_step, h]; simp)
      have HLE := hid (up_len (fun i => statesB ⟨qt, qs, qa, qk⟩ (fcAt c i)) k)
      rw [hfa] at HUP HNO
      clear hfa
      generalize c.fcs[k] = x at c0 c1' c2' c3' c4' c5' hS HUP HNO
      obtain ⟨xt, xs, sf, st, kf, kt⟩ := x
      dsimp only at c0 c1' c2' c3' c4' c5' hS HUP HNO
      have W4q : (wr.alloc (.cells #[.int .i64 xt, .int .i64 xs, .int .i64 sf, .int .i64 st, .int .i64 kf, .int .i64 kt] 57)).heap[w.heap.size + 1]? = some (.cells [.int .i64 qt, .int .i64 qs, .int .i64 qa, .int .i64 qk].toArray 37 (0, 0)) := (Below.heap_alloc _ _ _ (by omega)).trans ((hF.out.block _ z2 (fun e => e)).trans HX1.out)
      have q0 := row_cell W4q 0
      have q1 := row_cell W4q 1
      have q2 := row_cell W4q 2
      have q3 := row_cell W4q 3
      simp only [List.getElem?_cons_zero, List.getElem?_cons_succ] at q0 q1 q2 q3
      clear W4q
      have HST : Hid (Calls Try.prog 36 #[.agg #[.int .i64 xt, .int .i64 xs, .int .i64 sf, .int .i64 st, .int .i64 kf, .int .i64 kt], .agg #[.int .i64 qt, .int .i64 qs, .int .i64 qa, .int .i64 qk]] (wr.alloc (.cells #[.int .i64 xt, .int .i64 xs, .int .i64 sf, .int .i64 st, .int .i64 kf, .int .i64 kt] 57)) fun e w' => e = .returned (.bool (statesB ⟨qt, qs, qa, qk⟩ ⟨xt, xs, sf, st, kf, kt⟩)) ∧ Fr (fun _ => False) (wr.alloc (.cells #[.int .i64 xt, .int .i64 xs, .int .i64 sf, .int .i64 st, .int .i64 kf, .int .i64 kt] 57)) w') := hid (states_any ⟨xt, xs, sf, st, kf, kt⟩ ⟨qt, qs, qa, qk⟩ _ hS.1 hS.2)
      clear hS
      generalize hA : statesB ⟨qt, qs, qa, qk⟩ ⟨xt, xs, sf, st, kf, kt⟩ = A at HST HUP HNO
      clear hA
      have FW := hid ((hF.out.alloc (.cells #[.int .i64 xt, .int .i64 xs, .int .i64 sf, .int .i64 st, .int .i64 kf, .int .i64 kt] 57)))
      have HL5 : Hid ((upF c ⟨qt, qs, qa, qk⟩ k).length ≤ 100000) := hid (by have := HLE.out; have := HLV.out; unfold upF; omega)
      cases A with
      | false =>
        have HE := hid (HNO.out rfl)
        clear HNO HUP
        go_wp2_with (go_at_call 36; refine HST.out.mono ?_; rintro e w4 ⟨rfl, f4⟩; have F4 := hid f4; clear f4)
        go_roundw
        case rel => exact ⟨k + 1, a, cc, by omega, by go_num, by rw [HE.out], hid (by rw [HE.out]; exact own_fr (own_fr hO.out ((Fr.refl (fun _ => False) _).alloc _) (fun _ _ e => e)) F4.out (fun _ _ e => e)), hid (FW.out.trans F4.out)⟩
        case measure => simp [intOf]; omega
      | true =>
        have HE : Hid (ins (nats (upF c ⟨qt, qs, qa, qk⟩ k)) k = nats (upF c ⟨qt, qs, qa, qk⟩ (k + 1))) := hid (HUP.out rfl)
        clear HNO HUP
        go_wp2_with (first | (go_at_call 36; refine HST.out.mono ?_; rintro e w4 ⟨rfl, f4⟩; have F4 := hid (FW.out.trans f4); have O4 := hid (own_fr (own_fr hO.out ((Fr.refl (fun _ => False) _).alloc _) (fun _ _ e => e)) f4 (fun _ _ e => e)); have z4 := F4.out.size; clear f4) | (go_at_call 35; refine (insert_n (own_fr O4.out ((Fr.refl (fun _ => False) _).alloc _) (fun _ _ e => e)) (nats_length _).symm (by simp <;> omega) HL5.out (k : Int) w4.heap.size (heap_alloc_new w4 _)).mono ?_; rintro e w5 ⟨g5, cap5, rfl, h5, f5, p5⟩; have H5 := hid h5; have F5 : Hid (Fr (fun i => w2.heap.size ≤ i ∧ i < w4.heap.size) w4 w5) := hid (((Fr.refl (fun i => w2.heap.size ≤ i ∧ i < w4.heap.size) w4).alloc (.cells #[.int .i64 k] 3)).then f5 (fun i hi e => own_old O4.out hi e)); clear h5 f5 p5))
        go_roundw
        case rel => exact ⟨k + 1, some ⟨g5, 0, none⟩, cap5, by omega, by go_num, by rw [HE.out, nats_length], hid (by have := H5.out; rw [HE.out, nats_length] at this; exact this), hid (F4.out.then F5.out (fun i hi e => absurd e.1 (Nat.not_le_of_lt hi)))⟩
        case measure => simp [intOf]; omega
    · obtain rfl : k = c.fcs.length := by omega
      clear hlt hk
      have OF := hid hO.out
      have FF := hid hF.out
      have YX0 := hid ((hF.out.block _ (by omega) (fun e => e)).trans HX0.out)
      have YX1 := hid ((hF.out.block _ z2 (fun e => e)).trans HX1.out)
      have RF := hid (R2.out.fr hF.out (fun _ _ e => e))
      obtain ⟨w3, hw3⟩ : ∃ w3, w3 = wr := ⟨_, rfl⟩
      rw [← hw3] at OF FF YX0 YX1 RF z3
      have y0 := row_cell YX0.out 0
      simp only [List.getElem?_cons_zero] at y0
      rw [hw3] at y0
      clear hO hF
      go_wp2
      go_loopw [8, 39] (fun s8 s39 wr => ∃ (k : Nat) (a2 : Option Addr) (cc2 : Nat), k ≤ ms.length ∧ s39 = .int .i64 k ∧ s8 = .slice a2 (upG c ⟨qt, qs, qa, qk⟩ k).length cc2 ∧ Hid (wr.ownsRow w3.heap.size 3 1 (.slice a2 (upG c ⟨qt, qs, qa, qk⟩ k).length cc2) (upG c ⟨qt, qs, qa, qk⟩ k).length (ints (nats (upG c ⟨qt, qs, qa, qk⟩ k)))) ∧ Hid (Fr (fun _ => False) w3 wr)) (fun _ s39 _ => ms.length - (intOf s39).toNat)
      case atStart => exact ⟨0, none, 0, Nat.zero_le _, rfl, rfl, hid (World.ownsRow_nil _ _ _ _), hid (by rw [hw3]; exact Fr.refl _ _)⟩
      case round =>
        clear y0 hw3
        obtain ⟨k, a2, cc2, hk, rfl, rfl, hO, hF⟩ := hrel
        have z5 := hF.out.size
        by_cases hlt : k < ms.length
        · have RR := hid (RF.out.fr hF.out (fun _ _ e => e))
          have T0 := (hF.out.block _ (row_lt YX0.out) (fun e => e)).trans YX0.out
          have T1 := (hF.out.block _ (row_lt YX1.out) (fun e => e)).trans YX1.out
          have t0 := row_cell T0 0
          have t1 := row_cell T0 1
          have t2 := row_cell T0 2
          have q0 := row_cell T1 0
          have q1 := row_cell T1 1
          have q2 := row_cell T1 2
          have q3 := row_cell T1 3
          simp only [List.getElem?_cons_zero, List.getElem?_cons_succ] at t0 t1 t2 q0 q1 q2 q3
          clear T0 T1
          have hSS : S64 ms[k].x.to := HCL.out _ (by rw [RF.out.cls]; exact List.mem_map_of_mem (List.getElem_mem hlt))
          have HST := hid (rules_any RR.out ⟨qt, qs, qa, qk⟩ k hlt hSS)
          have HUP := hid (ins_up (fun i => rulesB c ⟨qt, qs, qa, qk⟩ i) k)
          have HNO : Hid (rulesB c ⟨qt, qs, qa, qk⟩ k = false → upG c ⟨qt, qs, qa, qk⟩ (k + 1) = upG c ⟨qt, qs, qa, qk⟩ k) := hid (fun h => by unfold upG; rw [up_step, h]; simp)
          have HLE := hid (up_len (fun i => rulesB c ⟨qt, qs, qa, qk⟩ i) k)
          have HL5 : Hid ((upG c ⟨qt, qs, qa, qk⟩ k).length ≤ 100000) := hid (by have := HLE.out; have := HLV.out; have := RF.out.len; unfold upG; omega)
          clear hSS
          generalize hA : rulesB c ⟨qt, qs, qa, qk⟩ k = A at HST HUP HNO
          clear hA
          cases A with
          | false =>
            have HE := hid (HNO.out rfl)
            clear HNO HUP
            go_wp2_with (go_at_call 37; refine HST.out.mono ?_; rintro e w4 ⟨rfl, f4⟩; have F4 := hid f4; clear f4)
            go_roundw
            case rel => exact ⟨k + 1, a2, cc2, by omega, by go_num, by rw [HE.out], hid (by rw [HE.out]; exact own_fr hO.out F4.out (fun _ _ e => e)), hid (hF.out.trans F4.out)⟩
            case measure => simp [intOf]; omega
          | true =>
            have HE : Hid (ins (nats (upG c ⟨qt, qs, qa, qk⟩ k)) k = nats (upG c ⟨qt, qs, qa, qk⟩ (k + 1))) := hid (HUP.out rfl)
            clear HNO HUP
            go_wp2_with (first | (go_at_call 37; refine HST.out.mono ?_; rintro e w4 ⟨rfl, f4⟩; have F4 := hid (hF.out.trans f4); have O4 := hid (own_fr hO.out f4 (fun _ _ e => e)); have z4 := F4.out.size; clear f4) | (go_at_call 35; refine (insert_n (own_fr O4.out ((Fr.refl (fun _ => False) _).alloc _) (fun _ _ e => e)) (nats_length _).symm (by simp <;> omega) HL5.out (k : Int) w4.heap.size (heap_alloc_new w4 _)).mono ?_; rintro e w5 ⟨g5, cap5, rfl, h5, f5, p5⟩; have H5 := hid h5; have F5 : Hid (Fr (fun i => w3.heap.size ≤ i ∧ i < w4.heap.size) w4 w5) := hid (((Fr.refl (fun i => w3.heap.size ≤ i ∧ i < w4.heap.size) w4).alloc (.cells #[.int .i64 k] 3)).then f5 (fun i hi e => own_old O4.out hi e)); clear h5 f5 p5))
            go_roundw
            case rel => exact ⟨k + 1, some ⟨g5, 0, none⟩, cap5, by omega, by go_num, by rw [HE.out, nats_length], hid (by have := H5.out; rw [HE.out, nats_length] at this; exact this), hid (F4.out.then F5.out (fun i hi e => absurd e.1 (Nat.not_le_of_lt hi)))⟩
            case measure => simp [intOf]; omega
        · obtain rfl : k = ms.length := by omega
          clear hlt hk
          go_wp2
          go_ret3
          refine ⟨_, _, rfl, own_zero (own_fr OF.out hF.out (fun _ _ e => e)) F2.out.size, ?_, ?_, (F2.out.trans FF.out).trans hF.out⟩
          · have e : clausesOf c ⟨qt, qs, qa, qk⟩ = upG c ⟨qt, qs, qa, qk⟩ ms.length := by unfold clausesOf upG; rw [RF.out.len]
            rw [e]
            exact own_zero hO.out (Nat.le_trans F2.out.size z3)
          · intro i e1 e2
            have b1 := own_base OF.out i e1
            have b2 := own_base hO.out i e2
            omega
end Go.Proofs.Ytfalhljidnpmgaa
