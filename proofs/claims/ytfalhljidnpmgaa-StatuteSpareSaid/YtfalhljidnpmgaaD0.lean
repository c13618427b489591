/- Lists of one's own at whatever element: appending to them; rules that lie in rows of one's own. No condition beside the sizes. -/
import Derived.Test.YtfalhljidnpmgaaC7
set_option linter.unusedVariables false
set_option linter.unusedSimpArgs false
namespace Go.Proofs.Ytfalhljidnpmgaa
open Go.RowKit Go.Proofs.Statute Go.Maps

theorem step_of {ops : Array Oper} {o : Oper} {a : Act} {w : World} {K : Act → World → Prop} {Q : Exit → Act → World → Prop} {E : Prop} (hgd : o.guard = none) (h : o.wp Try.prog a w K Q) :
    if Region.wanted o (yielded ops a.tmps) = true then o.wp Try.prog a w K Q else E := by
  have hw : Region.wanted o (yielded ops a.tmps) = true := by simp [Region.wanted, hgd]
  rw [if_pos hw]
  exact h
theorem flat_length {α : Type} {sz : Nat} {enc : α → List Value} (he : ∀ x, (enc x).length = sz) (xs : List α) : (xs.flatMap enc).length = xs.length * sz := by
  induction xs with
  | nil => simp
  | cons x xs ih => simp only [List.flatMap_cons, List.length_append, ih, he, List.length_cons, Nat.succ_mul]; omega
/-- What is known of a kind of element: its slice type, its own type, how many cells and bytes, its zero value, how it lies in cells. -/
structure Kind {α : Type} (sl e : TypeId) (sz by_ : Nat) (z : Value) (enc : α → List Value) : Prop where
  under : Try.prog.underlying sl = some (.slice e)
  info : (Try.prog.info? e).map (fun i => (i.zero, i.size, i.bytes)) = some (some z, sz, by_)
  zs : z.cells.size = sz
  pos : 0 < sz
  small : by_ ≤ 1000
  len : ∀ x, (enc x).length = sz
/-- append(v, ys...) on a row of one's own, from a list that lies somewhere. -/
theorem append_op {α : Type} {sl e : TypeId} {sz by_ : Nat} {z : Value} {enc : α → List Value} (kd : Kind sl e sz by_ z enc)
    {w : World} {base n m : Nat} {v : Value} {xs ys : List α} {lv : Value} {K' : Nat → Prop} (h : w.ownsRow base e sz v n (xs.flatMap enc)) (hb : base ≤ w.heap.size) (hr : Reads K' w sz enc lv ys) (hm : m = ys.length) (hl : n + m ≤ 1000000) (hpos : 0 < m)
    (h1 : ∀ y ∈ ys, ∀ u ∈ enc y, u.oneCell' = true)
    {o : Oper} {a : Act} {K : Act → World → Prop} {Q : Exit → Act → World → Prop} (s y : Operand) (ho : o.op = .call { callee := .builtin .append, args := #[s, y], argTypes := #[sl, sl] })
    (hs : a.eval s = v) (hy : a.eval y = lv)
    (hh : ∀ g c w', w'.ownsRow base e sz (.slice (some ⟨g, 0, none⟩) (n + m) c) (n + m) ((xs ++ ys).flatMap enc) → Fr (fun k => v.ownBlock = some k) w w' → (v.ownBlock = some g ∨ g = w.heap.size) → K (a.put o.dst (.slice (some ⟨g, 0, none⟩) (n + m) c)) w') :
    o.wp Try.prog a w K Q := by
  subst hm
  obtain ⟨i0, hi0, hz0, hz1, hz2⟩ := info_parts kd.info
  obtain ⟨al, cc, rfl, _, _, h3⟩ := hr
  obtain ⟨b3, o3, rfl, _, hbl, hx⟩ := h3 hpos
  have hbytes : (n + ys.length) * by_ ≤ 140737488355328 := by
    have := Nat.mul_le_mul hl kd.small
    omega
  refine wp_append_lies w s y sl ho base e i0 z sz by_ kd.under hi0 hz0 hz1 hz2 kd.zs kd.pos v n (xs.flatMap enc) hs h ⟨b3, o3, none⟩ ys.length cc (ys.flatMap enc) hy (flat_length kd.len ys) ?_ ?_ hpos (by unfold maxLen; omega) hbytes hb w.heap.size rfl ?_
  · intro j u hu
    have hj : j < ys.length * sz := by
      have := (List.getElem?_eq_some_iff.1 hu).1
      rwa [flat_length kd.len] at this
    have e : (⟨b3, o3, none⟩ : Addr).add j = ⟨b3, o3 + j, none⟩ := by unfold Addr.add; split <;> simp_all
    have hdiv : j / sz < ys.length := Nat.div_lt_of_lt_mul (by rw [Nat.mul_comm]; exact hj)
    have hj2 : j / sz * sz + j % sz = j := Nat.div_add_mod' j sz
    rw [e, ← hj2, ← Nat.add_assoc]
    refine hx (j / sz) hdiv (j % sz) u ?_
    rw [← flat_get kd.len ys (j / sz) hdiv (j % sz) (Nat.mod_lt _ kd.pos), hj2]
    exact hu
  · intro u hu
    obtain ⟨x, hx1, hx2⟩ := List.mem_flatMap.1 hu
    exact h1 x hx1 u hx2
  · intro g c w' h2 h3 h4 _
    refine hh g c w' ?_ ((Fr.refl _ _).grown h3 (fun k hk _ => hk)) h4
    rw [List.flatMap_append]
    exact h2
theorem ints_one (x : Int) : ∀ u ∈ encI x, u.oneCell' = true := by
  intro u hu
  simp [encI] at hu
  subst hu
  rfl
theorem encR_one (x : Rp) : ∀ u ∈ encR x, u.oneCell' = true := by
  intro u hu
  simp [encR] at hu
  rcases hu with rfl | rfl | rfl <;> rfl
theorem encF_one (x : Fc) : ∀ u ∈ encF x, u.oneCell' = true := by
  intro u hu
  simp [encF] at hu
  rcases hu with rfl | rfl | rfl | rfl | rfl | rfl <;> rfl
theorem encD_one (x : Fnd) : ∀ u ∈ encD x, u.oneCell' = true := by
  intro u hu
  simp [encD] at hu
  rcases hu with rfl | rfl | rfl | rfl <;> rfl
theorem encC_one (m : CM) (h1 : m.nv.oneCell' = true) (h2 : m.bv.oneCell' = true) : ∀ u ∈ encC m, u.oneCell' = true := by
  intro u hu
  simp [encC] at hu
  rcases hu with rfl | rfl | rfl | rfl | rfl | rfl <;> first | rfl | assumption
def z51 : Value := .agg #[.int .i64 0, .int .i64 0, .int .i64 0, .slice none 0 0, .slice none 0 0, .int .i64 0]
def z55 : Value := .agg #[.int .i64 0, .int .i64 0, .int .i64 0]
def z57 : Value := .agg #[.int .i64 0, .int .i64 0, .int .i64 0, .int .i64 0, .int .i64 0, .int .i64 0]
theorem kindI : Kind 49 3 1 8 (.int .i64 0) encI := ⟨Try.underlying49, by kernel_rfl, rfl, by omega, by omega, fun _ => rfl⟩
theorem kindC : Kind 30 51 6 80 z51 encC := ⟨Try.underlying30, by kernel_rfl, rfl, by omega, by omega, fun _ => rfl⟩
theorem kindR : Kind 31 55 3 24 z55 encR := ⟨Try.underlying31, by kernel_rfl, rfl, by omega, by omega, fun _ => rfl⟩
theorem kindF : Kind 32 57 6 48 z57 encF := ⟨Try.underlying32, by kernel_rfl, rfl, by omega, by omega, fun _ => rfl⟩
theorem kindD : Kind 28 63 4 32 dzero encD := ⟨Try.underlying28, by kernel_rfl, rfl, by omega, by omega, fun _ => rfl⟩

/-- One new element, in a block that was just made. -/
theorem reads_new {α : Type} {sz : Nat} {enc : α → List Value} (w : World) (x : α) (e : TypeId) (hl : (enc x).length = sz) : Reads (fun _ => True) (w.alloc (.cells (enc x).toArray e)) sz enc (.slice (some ⟨w.heap.size, 0, none⟩) 1 1) [x] := by
  refine ⟨_, 1, rfl, by simp, by omega, fun _ => ⟨w.heap.size, 0, rfl, trivial, by simp, fun i hi j u hu => ?_⟩⟩
  have : i = 0 := by simp at hi; exact hi
  subst this
  rw [cell_of_row _ _ _ _ _ _ (heap_alloc_new w _)]
  simpa using hu

/-! ### Rules in rows of one's own -/
structure OB (base : Nat) (N : Nat → Prop) (w : World) (cl rl fl : Value) (ms : List CM) (c : Rb) : Prop where
  cls : c.cls = ms.map CM.x
  oc : w.ownsRow base 51 6 cl ms.length (ms.flatMap encC)
  or : w.ownsRow base 55 3 rl c.rps.length (c.rps.flatMap encR)
  of : w.ownsRow base 57 6 fl c.fcs.length (c.fcs.flatMap encF)
  hn : ∀ m ∈ ms, Reads N w 1 encI m.nv m.x.needs ∧ Reads N w 1 encI m.bv m.x.bars
  nt : ∀ k, N k → ∃ cs, w.heap[k]? = some (.cells cs 3 (0, 0))
section
variable {base : Nat} {N S : Nat → Prop} {w w' : World} {cl rl fl : Value} {ms : List CM} {c : Rb}
theorem own_type {e : TypeId} {sz n : Nat} {v : Value} {xs : List Value} (h : w.ownsRow base e sz v n xs) {k : Nat} (hk : v.ownBlock = some k) : base ≤ k ∧ ∃ cs, w.heap[k]? = some (.cells cs e (0, 0)) := by
  obtain ⟨_, h⟩ := h
  rcases h with ⟨rfl, _⟩ | ⟨g, cap, cur, rfl, h1, h2, _⟩
  · simp [Value.ownBlock] at hk
  · simp [Value.ownBlock] at hk
    subst hk
    exact ⟨h1, cur, h2⟩
/-- Two rows of elements of two types lie apart. -/
theorem own_apart {base' : Nat} {e e' : TypeId} {sz sz' n n' : Nat} {v v' : Value} {xs xs' : List Value} (h : w.ownsRow base e sz v n xs) (h' : w.ownsRow base' e' sz' v' n' xs') (hne : e ≠ e') {k : Nat} (hk : v.ownBlock = some k) : v'.ownBlock ≠ some k := fun hk' => by
  obtain ⟨_, cs, h1⟩ := own_type h hk
  obtain ⟨_, cs', h2⟩ := own_type h' hk'
  rw [h1] at h2
  injection h2 with h2
  injection h2 with _ h2 _
  exact hne h2
theorem OB.fr (h : OB base N w cl rl fl ms c) (hf : Fr S w w') (h1 : ∀ k, cl.ownBlock = some k → ¬ S k) (h2 : ∀ k, rl.ownBlock = some k → ¬ S k) (h3 : ∀ k, fl.ownBlock = some k → ¬ S k) (h4 : ∀ k, N k → ¬ S k) : OB base N w' cl rl fl ms c where
  cls := h.cls
  oc := own_fr h.oc hf h1
  or := own_fr h.or hf h2
  of := own_fr h.of hf h3
  hn := fun m hm => ⟨(h.hn m hm).1.fr hf h4, (h.hn m hm).2.fr hf h4⟩
  nt := fun k hk => by
    obtain ⟨cs, hc⟩ := h.nt k hk
    exact ⟨cs, (hf.block k (row_lt hc) (h4 k hk)).trans hc⟩
theorem OB.quiet (h : OB base N w cl rl fl ms c) (hf : Fr (fun _ => False) w w') : OB base N w' cl rl fl ms c := h.fr hf (fun _ _ e => e) (fun _ _ e => e) (fun _ _ e => e) (fun _ _ e => e)
/-- Behind what touches no block of those that the rules lie in: all of these are of four types, and lie from base on, or are of numbers. -/
theorem OB.far (h : OB base N w cl rl fl ms c) (hf : Fr S w w') (hS : ∀ k, S k → k < w.heap.size → ∃ cs t, w.heap[k]? = some (.cells cs t (0, 0)) ∧ t ≠ 51 ∧ t ≠ 55 ∧ t ≠ 57 ∧ t ≠ 3) : OB base N w' cl rl fl ms c := by
  have key : ∀ (k : Nat) (cs : Array Value) (t : TypeId), w.heap[k]? = some (.cells cs t (0, 0)) → (t = 51 ∨ t = 55 ∨ t = 57 ∨ t = 3) → ¬ S k := fun k cs t hk ht hs => by
    obtain ⟨cs', t', h1, h2, h3, h4, h5⟩ := hS k hs (row_lt hk)
    rw [hk] at h1
    injection h1 with h1
    injection h1 with _ h1 _
    subst h1
    rcases ht with e | e | e | e
    · exact h2 e
    · exact h3 e
    · exact h4 e
    · exact h5 e
  refine h.fr hf (fun k hk => ?_) (fun k hk => ?_) (fun k hk => ?_) (fun k hk => ?_)
  · obtain ⟨_, cs, e⟩ := own_type h.oc hk
    exact key k cs 51 e (by simp)
  · obtain ⟨_, cs, e⟩ := own_type h.or hk
    exact key k cs 55 e (by simp)
  · obtain ⟨_, cs, e⟩ := own_type h.of hk
    exact key k cs 57 e (by simp)
  · obtain ⟨cs, e⟩ := h.nt k hk
    exact key k cs 3 e (by simp)
theorem OB.mono {base' : Nat} (h : OB base N w cl rl fl ms c) (hb : base' ≤ base) : OB base' N w cl rl fl ms c :=
  { h with oc := own_zero h.oc hb, or := own_zero h.or hb, of := own_zero h.of hb }
theorem OB.start (base : Nat) (w : World) : OB base (fun _ => False) w (.slice none 0 0) (.slice none 0 0) (.slice none 0 0) [] ⟨[], [], []⟩ :=
  ⟨rfl, World.ownsRow_nil _ _ _ _, World.ownsRow_nil _ _ _ _, World.ownsRow_nil _ _ _ _, fun m hm => by simp at hm, fun _ h => h.elim⟩
theorem valid_i64 {c : Rb} (h : validB c = true) : (∀ x ∈ c.cls, I64 x.fr ∧ x.needs.length ≤ 1000000 ∧ x.bars.length ≤ 1000000) ∧ (∀ x ∈ c.fcs, I64 x.sf ∧ I64 x.kf) := by
  simp only [validB, Bool.and_eq_true, List.all_eq_true, decide_eq_true_eq] at h
  refine ⟨fun x hx => ?_, fun x hx => ?_⟩
  · have := h.1.1.2 x hx
    simp only [clB, spellB, secB, inB, ascends, Bool.and_eq_true, decide_eq_true_eq] at this
    unfold I64
    omega
  · have := h.2 x hx
    simp only [fcB, spellB, secB, inB, Bool.and_eq_true, decide_eq_true_eq] at this
    unfold I64
    omega
theorem OB.rb (h : OB base N w cl rl fl ms c) (hv : validB c = true) : RB (fun _ => True) w cl rl fl ms c := by
  have hi := valid_i64 hv
  have hl := hv
  simp only [validB, Bool.and_eq_true, decide_eq_true_eq] at hl
  have hlm : ms.length = c.cls.length := by rw [h.cls]; simp
  refine ⟨h.cls, own_reads (fun _ => rfl) h.oc (fun _ _ => trivial), fun m hm => ⟨(h.hn m hm).1.mono (fun _ _ _ => trivial), (h.hn m hm).2.mono (fun _ _ _ => trivial)⟩, own_reads (fun _ => rfl) h.or (fun _ _ => trivial), own_reads (fun _ => rfl) h.of (fun _ _ => trivial), fun m hm => hi.1 m.x (by rw [h.cls]; exact List.mem_map_of_mem hm), hi.2, by omega, by omega, by omega⟩
end
end Go.Proofs.Ytfalhljidnpmgaa
