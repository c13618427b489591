/- The map of what has been found; open. No condition beside the bounds. -/
import Derived.Test.YtfalhljidnpmgaaA8
import Derived.Maps.OwnSet
set_option linter.unusedVariables false
set_option linter.unusedSimpArgs false
namespace Go.Proofs.Ytfalhljidnpmgaa
open Go.RowKit Go.Proofs.Statute Go.Maps

abbrev HV := Value
def RV (v : Value) : Option (DataW HV × List MemPlace) := some (.held v, [])
def dval (x : Fnd) : Value := .agg #[.int .i64 x.says, .bool x.holds, .int .i64 x.fact, .int .i64 x.clause]
def dzero : Value := .agg #[.int .i64 0, .bool false, .int .i64 0, .int .i64 0]
theorem zero63 (W : World) : (zeroValue 63).run Try.prog W = .ok dzero W := by kernel_rfl
def cnt (kn : Nat → Bool) : Nat := (List.range 20).countP kn
theorem cnt_le (kn : Nat → Bool) : cnt kn ≤ 20 := by
  have := List.countP_le_length (p := kn) (l := List.range 20)
  simpa [cnt] using this
theorem countP_or (kn : Nat → Bool) (m : Nat) (h : kn m = false) : ∀ k, (List.range k).countP (fun x => kn x || x == m) = (List.range k).countP kn + if m < k then 1 else 0
  | 0 => rfl
  | k + 1 => by
    rw [List.range_succ, List.countP_append, List.countP_append, countP_or kn m h k]
    simp only [List.countP_singleton]
    by_cases e : k = m
    · subst e
      simp [h]
    · have e2 : (k == m) = false := by simpa using e
      have e3 : (if m < k + 1 then 1 else 0) = (if m < k then 1 else 0) := by
        by_cases h3 : m < k
        · rw [if_pos h3, if_pos (by omega)]
        · rw [if_neg h3, if_neg (by omega)]
      rw [e2, Bool.or_false, e3]
      omega
theorem cnt_or (kn : Nat → Bool) (m : Nat) (h : kn m = false) (hm : m ≤ 19) : cnt (fun x => kn x || x == m) = cnt kn + 1 := by
  unfold cnt
  rw [countP_or kn m h 20, if_pos (by omega)]
def Found (w : World) (b : Nat) (j : Jd) (kn : Nat → Bool) : Prop :=
  ∃ n D, w.ownsMap Try.prog 3 RV b n D ∧ IsMap D ∧ n ≤ cnt kn ∧ ∀ m : Nat, m ≤ 19 → Maps.has D (.int .i64 m) = kn m ∧ D.atKey (.int .i64 m) (.held dzero) = .held (if kn m then dval (j.fd m) else dzero)
theorem Found.start (w : World) (j : Jd) : Found (w.alloc (.map #[] 0)) w.heap.size j (fun _ => false) :=
  ⟨0, _, World.ownsMap_made _ _ _ _, isMap_empty, Nat.zero_le _, fun m _ => ⟨rfl, rfl⟩⟩
theorem Found.lt {w : World} {b : Nat} {j : Jd} {kn : Nat → Bool} (h : Found w b j kn) : b < w.heap.size := by
  obtain ⟨n, D, h1, _⟩ := h
  exact h1.lt
theorem Found.keep {w w' : World} {b : Nat} {j : Jd} {kn : Nat → Bool} (h : Found w b j kn) (hk : w'.heap[b]? = w.heap[b]?) : Found w' b j kn := by
  obtain ⟨n, D, h1, h2⟩ := h
  obtain ⟨es, clock, hb, F, hs, hD⟩ := h1
  exact ⟨n, D, ⟨es, clock, hk.trans hb, F, hs, hD⟩, h2⟩
theorem Found.fr {w w' : World} {S : Nat → Prop} {b : Nat} {j : Jd} {kn : Nat → Bool} (h : Found w b j kn) (hf : Fr S w w') (hS : ¬ S b) : Found w' b j kn := h.keep (hf.block b h.lt hS)
theorem wf20 : ∀ m : Fin 20, (Lit.int .i64 (m.val : Int)).wf = true := by decide
theorem key_of (m : Nat) (h : m ≤ 19) : keyOf Try.prog 3 (.int .i64 m) = some (.int .i64 m) := keyOf_int_mk Try.underlying3 (wf20 ⟨m, by omega⟩)
theorem isKey (m : Nat) (h : m ≤ 19) : WideAt.IsKeyLit (.int .i64 m) := (int_keyed Try.underlying3).key (key_of m h)
section
variable {w : World} {b : Nat} {j : Jd} {kn : Nat → Bool} {ops : Array Oper} {rest : List Oper} {o : Oper} {a : Act} {Q : Exit → Act → World → Prop}
theorem wp_look (hg : o.guard = none) (m x : Operand) (hop : o.op = Op.lookup 82 m x true) (hm : a.eval m = .map (some b)) (h : Found w b j kn) (n : Nat) (hn : n ≤ 19) (hx : a.eval x = .int .i64 n) (v : Value) (hv : v = if kn n then dval (j.fd n) else dzero)
    (hK : wpList Try.prog ops Q rest (a.put o.dst (.tuple #[v, .bool (kn n)])) w) : wpList Try.prog ops Q (o :: rest) a w := by
  obtain ⟨c, D, h1, _, _, h2⟩ := h
  obtain ⟨e1, e2⟩ := h2 n hn
  refine wpList_lookup_own_ok w hg m x 82 hop 3 63 (int_keyed Try.underlying3) Try.underlying82 RV (zero63 w) (.held dzero) [] rfl b c D hm h1 _ (.int .i64 n) hx (key_of n hn) ?_
  intro v' ps hv'
  rw [e2] at hv'
  have e3 : v' = v := by
    unfold RV at hv'
    injection hv' with hv'
    injection hv' with hv' _
    injection hv' with hv'
    rw [hv', hv]
  rw [e1, e3]
  exact hK
theorem wp_upd (hg : o.guard = none) (m x v : Operand) (hop : o.op = Op.mapUpdate 82 m x v) (hm : a.eval m = .map (some b)) (h : Found w b j kn) (n : Nat) (hn : n ≤ 19) (hk : kn n = false) (hx : a.eval x = .int .i64 n) (hv : a.eval v = dval (j.fd n))
    (hK : ∀ w', Found w' b j (fun x => kn x || x == n) → Fr (fun k => k = b) w w' → wpList Try.prog ops Q rest (a.put o.dst undef) w') : wpList Try.prog ops Q (o :: rest) a w := by
  obtain ⟨c, D, h1, h3, h4, h2⟩ := h
  have hc := cnt_le kn
  refine wpList_mapUpdate_own w hg m x v 82 hop 3 63 (int_keyed Try.underlying3) Try.underlying82 RV b c D hm h1 (by unfold maxLen; omega) _ _ (.int .i64 n) hx hv (key_of n hn) (.held (dval (j.fd n))) [] rfl ?_
  intro w' h5 h6
  refine hK w' ⟨c + 1, _, h5, h3.put _ _, by rw [cnt_or kn n hk hn]; omega, ?_⟩ ((Fr.refl _ _).grown h6 (fun k e _ => by cases e; rfl))
  intro m hm
  by_cases e : m = n
  · subst e
    rw [has_put_same h3 (isKey m hm), atKey_put_same h3 (isKey m hm)]
    simp
  · have hne : (Lit.int .i64 (m : Int)) ≠ .int .i64 (n : Int) := fun h => by
      injection h with _ h
      omega
    have e2 : (m == n) = false := by simpa using e
    rw [has_put_other hne, atKey_put_other hne, (h2 m hm).1, (h2 m hm).2]
    simp [e2]
end

/-! ### Who answers -/
structure JW (K : Nat → Prop) (w : World) (J b : Nat) (cl rl fl fv gv : Value) (ms : List CM) (j : Jd) (kn : Nat → Bool) : Prop where
  hJ : w.heap[J]? = some (.cells [cl, rl, fl, fv, gv, .map (some b)].toArray 84 (0, 0))
  rb : RB K w cl rl fl ms j.c
  hF : Reads K w 1 encI fv (nats j.F)
  hG : Reads K w 1 encI gv (nats j.G)
  kJ : K J
  kb : ¬ K b
  map : Found w b j kn
  ok : j.Ok
  inF : ∀ i ∈ j.F, i < j.c.fcs.length
  inG : ∀ i ∈ j.G, i < ms.length
  lF : j.F.length ≤ 20
  lG : j.G.length ≤ 20
  lm : ms.length ≤ 20
  ln : ∀ m ∈ ms, m.x.needs.length ≤ 4 ∧ m.x.bars.length ≤ 4
section
variable {K : Nat → Prop} {w : World} {J b : Nat} {cl rl fl fv gv : Value} {ms : List CM} {j : Jd} {kn : Nat → Bool}
/-- Behind a call that touches the map alone. -/
theorem JW.fr {w' : World} {kn' : Nat → Bool} (h : JW K w J b cl rl fl fv gv ms j kn) (hf : Fr (fun k => k = b) w w') (hm : Found w' b j kn') : JW K w' J b cl rl fl fv gv ms j kn' where
  hJ := (hf.block J (row_lt h.hJ) (fun e => h.kb (by rw [← e]; exact h.kJ))).trans h.hJ
  rb := h.rb.fr hf (fun k hk e => h.kb (by rw [← e]; exact hk))
  hF := h.hF.fr hf (fun k hk e => h.kb (by rw [← e]; exact hk))
  hG := h.hG.fr hf (fun k hk e => h.kb (by rw [← e]; exact hk))
  kJ := h.kJ
  kb := h.kb
  map := hm
  ok := h.ok
  inF := h.inF
  inG := h.inG
  lF := h.lF
  lG := h.lG
  lm := h.lm
  ln := h.ln
theorem JW.quiet {w' : World} (h : JW K w J b cl rl fl fv gv ms j kn) (hf : Fr (fun _ => False) w w') : JW K w' J b cl rl fl fv gv ms j kn := h.fr hf.non (h.map.fr hf (fun e => e))
theorem JW.alloc (h : JW K w J b cl rl fl fv gv ms j kn) (o : Obj) : JW K (w.alloc o) J b cl rl fl fv gv ms j kn := h.quiet ((Fr.refl _ _).alloc o)
end
def Opened (w : World) (cl rl fl : Value) (ms : List CM) (c : Rb) (q : Qn) (e : Ending) (w' : World) : Prop :=
  ∃ J b fv gv, e = .returned (.tuple #[.pointer (some ⟨J, 0, none⟩), .int .i64 0]) ∧ JW (fun k => k < w'.heap.size ∧ k ≠ b) w' J b cl rl fl fv gv ms (jdOf c q) (fun _ => false) ∧ Fr (fun _ => False) w w' ∧ w.heap.size ≤ b
set_option maxRecDepth 100000 in
set_option maxHeartbeats 6400000 in
theorem open_bad {K : Nat → Prop} {w : World} {cl rl fl : Value} {ms : List CM} {c : Rb} (h : RB K w cl rl fl ms c) (q : Qn) (hb : (validB c && asksB q) = false) :
    Calls Try.prog 30 #[.agg #[cl, rl, fl], .agg (qcells q)] w fun e w' => (∃ J, e = .returned (.tuple #[.pointer (some ⟨J, 0, none⟩), .int .i64 80])) ∧ Fr (fun _ => False) w w' := by
  have H2 : Hid (RB (fun k => k < w.heap.size) ((w.alloc (.cells #[cl, rl, fl] 34)).alloc (.cells (qcells q) 37)) cl rl fl ms c) := hid ((h.mono (fun k hk _ => hk)).fr (((Fr.refl (fun _ => False) w).alloc _).alloc _) (fun _ _ e => e))
  obtain ⟨a1, c1, rfl, _⟩ := h.hc
  obtain ⟨a2, e2, rfl, _⟩ := h.hr
  obtain ⟨a3, e3, rfl, _⟩ := h.hf
  clear h
  have HA := hid (applies_bad H2.out q hb)
  clear hb H2
  obtain ⟨qt, qs, qa, qk⟩ := q
  unfold qcells at *
  dsimp only at HA ⊢
  have hmm := @run_makeMap Try.prog
  go_enter Try.func30, Try.ntmps30
  go_wp2_with (go_at_call 22; refine HA.out.mono ?_; rintro e w1 ⟨rfl, f1⟩; have r1 := f1.cells; have z1 : w.heap.size + 1 < w1.heap.size := by have := f1.size; simp at this; omega)
  go_ret2
  exact ⟨⟨_, rfl⟩, (((((Fr.refl _ _).alloc _).alloc _).trans f1).alloc _).alloc _⟩
end Go.Proofs.Ytfalhljidnpmgaa
