/- Rules in rows of one's own: a clause, a repeal, a fact appended. No condition beside the sizes. -/
import Derived.Test.YtfalhljidnpmgaaD0
set_option linter.unusedVariables false
set_option linter.unusedSimpArgs false
namespace Go.Proofs.Ytfalhljidnpmgaa
open Go.RowKit Go.Proofs.Statute Go.Maps

theorem Fr.cells1 {S : Nat → Prop} {w w' : World} (hf : Fr S w w') {B i : Nat} {v : Value} (hB : ¬ S B) (h : w.cell? ⟨B, i, none⟩ = some v) : w'.cell? ⟨B, i, none⟩ = some v :=
  (hf.cell (World.block_lt_of_cell? w _ h) hB i).trans h
theorem newC (w : World) (a b c g : Int) (n m : List Int) (nv bv : Value) : Reads (fun _ => True) (w.alloc (.cells #[.int .i64 a, .int .i64 b, .int .i64 c, nv, bv, .int .i64 g] 51)) 6 encC (.slice (some ⟨w.heap.size, 0, none⟩) 1 1) [⟨⟨a, b, c, n, m, g⟩, nv, bv⟩] := reads_new (enc := encC) w ⟨⟨a, b, c, n, m, g⟩, nv, bv⟩ 51 rfl
theorem newR (w : World) (a b c : Int) : Reads (fun _ => True) (w.alloc (.cells #[.int .i64 a, .int .i64 b, .int .i64 c] 55)) 3 encR (.slice (some ⟨w.heap.size, 0, none⟩) 1 1) [⟨a, b, c⟩] := reads_new (enc := encR) w ⟨a, b, c⟩ 55 rfl
theorem newF (w : World) (a b c d e f : Int) : Reads (fun _ => True) (w.alloc (.cells #[.int .i64 a, .int .i64 b, .int .i64 c, .int .i64 d, .int .i64 e, .int .i64 f] 57)) 6 encF (.slice (some ⟨w.heap.size, 0, none⟩) 1 1) [⟨a, b, c, d, e, f⟩] := reads_new (enc := encF) w ⟨a, b, c, d, e, f⟩ 57 rfl
section
variable {base n : Nat} {N : Nat → Prop} {w w' : World} {cl rl fl cl' : Value} {ms : List CM} {c : Rb}
theorem OB.len (h : OB base N w cl rl fl ms c) : c.cls.length = ms.length := by rw [h.cls]; simp
theorem OB.oc_n (h : OB base N w cl rl fl ms c) (hn : c.cls.length = n) : w.ownsRow base 51 6 cl n (ms.flatMap encC) := by
  rw [h.len] at hn
  subst hn
  exact h.oc
theorem OB.or_n (h : OB base N w cl rl fl ms c) (hn : c.rps.length = n) : w.ownsRow base 55 3 rl n (c.rps.flatMap encR) := by
  subst hn
  exact h.or
theorem OB.of_n (h : OB base N w cl rl fl ms c) (hn : c.fcs.length = n) : w.ownsRow base 57 6 fl n (c.fcs.flatMap encF) := by
  subst hn
  exact h.of
theorem OB.push (h : OB base N w cl rl fl ms c) (hf : Fr (fun k => cl.ownBlock = some k) w w') (m : CM) {N' : Nat → Prop} (hN : ∀ k, N k → N' k)
    (h1 : Reads N' w 1 encI m.nv m.x.needs) (h2 : Reads N' w 1 encI m.bv m.x.bars) (hnt : ∀ k, N' k → ∃ cs, w.heap[k]? = some (.cells cs 3 (0, 0))) (hn : c.cls.length = n) (ho : w'.ownsRow base 51 6 cl' (n + 1) ((ms ++ [m]).flatMap encC)) :
    OB base N' w' cl' rl fl (ms ++ [m]) ⟨c.cls ++ [m.x], c.rps, c.fcs⟩ := by
  have hap : ∀ k, N' k → ¬ cl.ownBlock = some k := fun k hk e => by
    obtain ⟨cs, e1⟩ := hnt k hk
    obtain ⟨_, cs', e2⟩ := own_type h.oc e
    rw [e1] at e2
    injection e2 with e2
    injection e2 with _ e2 _
    exact absurd e2 (by decide)
  have hl := h.len
  refine ⟨by rw [List.map_append, h.cls]; rfl, by rw [List.length_append, ← hl, hn]; exact ho, own_fr h.or hf (fun k hk e => own_apart h.or h.oc (by decide) hk e), own_fr h.of hf (fun k hk e => own_apart h.of h.oc (by decide) hk e), fun y hy => ?_, fun k hk => ?_⟩
  · rcases List.mem_append.1 hy with hy | hy
    · exact ⟨((h.hn y hy).1.mono (fun k _ hk => hN k hk)).fr hf hap, ((h.hn y hy).2.mono (fun k _ hk => hN k hk)).fr hf hap⟩
    · simp at hy
      subst hy
      exact ⟨h1.fr hf hap, h2.fr hf hap⟩
  · obtain ⟨cs, e⟩ := hnt k hk
    exact ⟨cs, (hf.block k (row_lt e) (hap k hk)).trans e⟩
theorem OB.apartN (h : OB base N w cl rl fl ms c) {e : TypeId} {sz n' : Nat} {v : Value} {xs : List Value} (ho : w.ownsRow base e sz v n' xs) (he : e ≠ 3) : ∀ k, N k → ¬ v.ownBlock = some k := fun k hk e' => by
  obtain ⟨cs, e1⟩ := h.nt k hk
  obtain ⟨_, cs', e2⟩ := own_type ho e'
  rw [e1] at e2
  injection e2 with e2
  injection e2 with _ e2 _
  exact he e2.symm
theorem OB.pushR (h : OB base N w cl rl fl ms c) (hf : Fr (fun k => rl.ownBlock = some k) w w') (r : Rp) (hn : c.rps.length = n) (ho : w'.ownsRow base 55 3 cl' (n + 1) ((c.rps ++ [r]).flatMap encR)) :
    OB base N w' cl cl' fl ms ⟨c.cls, c.rps ++ [r], c.fcs⟩ := by
  have hap := h.apartN h.or (by decide)
  refine ⟨h.cls, own_fr h.oc hf (fun k hk e => own_apart h.oc h.or (by decide) hk e), by rw [List.length_append, hn]; exact ho, own_fr h.of hf (fun k hk e => own_apart h.of h.or (by decide) hk e), fun y hy => ⟨(h.hn y hy).1.fr hf hap, (h.hn y hy).2.fr hf hap⟩, fun k hk => ?_⟩
  obtain ⟨cs, e⟩ := h.nt k hk
  exact ⟨cs, (hf.block k (row_lt e) (hap k hk)).trans e⟩
theorem OB.pushF (h : OB base N w cl rl fl ms c) (hf : Fr (fun k => fl.ownBlock = some k) w w') (ys : List Fc) (hn : c.fcs.length = n) (ho : w'.ownsRow base 57 6 cl' (n + ys.length) ((c.fcs ++ ys).flatMap encF)) :
    OB base N w' cl rl cl' ms ⟨c.cls, c.rps, c.fcs ++ ys⟩ := by
  have hap := h.apartN h.of (by decide)
  refine ⟨h.cls, own_fr h.oc hf (fun k hk e => own_apart h.oc h.of (by decide) hk e), own_fr h.or hf (fun k hk e => own_apart h.or h.of (by decide) hk e), by rw [List.length_append, hn]; exact ho, fun y hy => ⟨(h.hn y hy).1.fr hf hap, (h.hn y hy).2.fr hf hap⟩, fun k hk => ?_⟩
  obtain ⟨cs, e⟩ := h.nt k hk
  exact ⟨cs, (hf.block k (row_lt e) (hap k hk)).trans e⟩
/-- The blocks of the rules' rows are none of a variable's (which is of another type). -/
theorem OB.ownC (h : OB base N w cl rl fl ms c) {B : Nat} {cs : Array Value} {t : TypeId} (hB : w.heap[B]? = some (.cells cs t (0, 0))) (ht : t ≠ 51) : ¬ cl.ownBlock = some B := fun e => by
  obtain ⟨_, cs', e2⟩ := own_type h.oc e
  rw [hB] at e2
  injection e2 with e2
  injection e2 with _ e2 _
  exact ht e2
theorem OB.ownR (h : OB base N w cl rl fl ms c) {B : Nat} {cs : Array Value} {t : TypeId} (hB : w.heap[B]? = some (.cells cs t (0, 0))) (ht : t ≠ 55) : ¬ rl.ownBlock = some B := fun e => by
  obtain ⟨_, cs', e2⟩ := own_type h.or e
  rw [hB] at e2
  injection e2 with e2
  injection e2 with _ e2 _
  exact ht e2
theorem OB.ownF (h : OB base N w cl rl fl ms c) {B : Nat} {cs : Array Value} {t : TypeId} (hB : w.heap[B]? = some (.cells cs t (0, 0))) (ht : t ≠ 57) : ¬ fl.ownBlock = some B := fun e => by
  obtain ⟨_, cs', e2⟩ := own_type h.of e
  rw [hB] at e2
  injection e2 with e2
  injection e2 with _ e2 _
  exact ht e2
section
variable {o : Oper} {a : Act} {K : Act → World → Prop} {Q : Exit → Act → World → Prop}
theorem appendC (h : OB base N w cl rl fl ms c) (hn : c.cls.length = n) (hb : base ≤ w.heap.size) (hl : n ≤ 100000) (x1 x2 x3 x4 : Int) (ln lm : List Int) (nv bv : Value) (h1 : nv.oneCell' = true) (h2 : bv.oneCell' = true)
    (s y : Operand) (ho : o.op = .call { callee := .builtin .append, args := #[s, y], argTypes := #[30, 30] }) (hs : a.eval s = cl) (hy : a.eval y = .slice (some ⟨w.heap.size, 0, none⟩) 1 1)
    (hh : ∀ g c w', w'.ownsRow base 51 6 (.slice (some ⟨g, 0, none⟩) (n + 1) c) (n + 1) ((ms ++ [(⟨⟨x1, x2, x3, ln, lm, x4⟩, nv, bv⟩ : CM)]).flatMap encC) → Fr (fun k => cl.ownBlock = some k) w w' → K (a.put o.dst (.slice (some ⟨g, 0, none⟩) (n + 1) c)) w') :
    o.wp Try.prog a (w.alloc (.cells #[.int .i64 x1, .int .i64 x2, .int .i64 x3, nv, bv, .int .i64 x4] 51)) K Q := by
  refine append_op kindC (m := 1) (ys := ([⟨⟨x1, x2, x3, ln, lm, x4⟩, nv, bv⟩] : List CM)) ((h.quiet ((Fr.refl _ _).alloc _)).oc_n hn) (by simp; omega) (newC w x1 x2 x3 x4 ln lm nv bv) rfl (by omega) (by omega) (fun y hy => ?_) s y ho hs hy (fun g c' w' h3 h4 _ => hh g c' w' h3 (((Fr.refl _ _).alloc _).then h4 (fun i _ e => e)))
  simp at hy
  subst hy
  exact encC_one _ h1 h2
theorem appendR (h : OB base N w cl rl fl ms c) (hn : c.rps.length = n) (hb : base ≤ w.heap.size) (hl : n ≤ 100000) (x1 x2 x3 : Int)
    (s y : Operand) (ho : o.op = .call { callee := .builtin .append, args := #[s, y], argTypes := #[31, 31] }) (hs : a.eval s = rl) (hy : a.eval y = .slice (some ⟨w.heap.size, 0, none⟩) 1 1)
    (hh : ∀ g c' w', w'.ownsRow base 55 3 (.slice (some ⟨g, 0, none⟩) (n + 1) c') (n + 1) ((c.rps ++ [(⟨x1, x2, x3⟩ : Rp)]).flatMap encR) → Fr (fun k => rl.ownBlock = some k) w w' → K (a.put o.dst (.slice (some ⟨g, 0, none⟩) (n + 1) c')) w') :
    o.wp Try.prog a (w.alloc (.cells #[.int .i64 x1, .int .i64 x2, .int .i64 x3] 55)) K Q :=
  append_op kindR (m := 1) (ys := ([⟨x1, x2, x3⟩] : List Rp)) ((h.quiet ((Fr.refl _ _).alloc _)).or_n hn) (by simp; omega) (newR w x1 x2 x3) rfl (by omega) (by omega) (fun y _ => encR_one y) s y ho hs hy (fun g c' w' h3 h4 _ => hh g c' w' h3 (((Fr.refl _ _).alloc _).then h4 (fun i _ e => e)))
theorem appendF (h : OB base N w cl rl fl ms c) (hn : c.fcs.length = n) (hb : base ≤ w.heap.size) (hl : n ≤ 100000) (x1 x2 x3 x4 x5 x6 : Int)
    (s y : Operand) (ho : o.op = .call { callee := .builtin .append, args := #[s, y], argTypes := #[32, 32] }) (hs : a.eval s = fl) (hy : a.eval y = .slice (some ⟨w.heap.size, 0, none⟩) 1 1)
    (hh : ∀ g c' w', w'.ownsRow base 57 6 (.slice (some ⟨g, 0, none⟩) (n + 1) c') (n + 1) ((c.fcs ++ [(⟨x1, x2, x3, x4, x5, x6⟩ : Fc)]).flatMap encF) → Fr (fun k => fl.ownBlock = some k) w w' → K (a.put o.dst (.slice (some ⟨g, 0, none⟩) (n + 1) c')) w') :
    o.wp Try.prog a (w.alloc (.cells #[.int .i64 x1, .int .i64 x2, .int .i64 x3, .int .i64 x4, .int .i64 x5, .int .i64 x6] 57)) K Q :=
  append_op kindF (m := 1) (ys := ([⟨x1, x2, x3, x4, x5, x6⟩] : List Fc)) ((h.quiet ((Fr.refl _ _).alloc _)).of_n hn) (by simp; omega) (newF w x1 x2 x3 x4 x5 x6) rfl (by omega) (by omega) (fun y _ => encF_one y) s y ho hs hy (fun g c' w' h3 h4 _ => hh g c' w' h3 (((Fr.refl _ _).alloc _).then h4 (fun i _ e => e)))
end
/-- A variable that holds rules, and a store into one of its three fields. -/
theorem set34 {B : Nat} {u0 u1 u2 : Value} (h : w.heap[B]? = some (.cells #[u0, u1, u2] 34 (0, 0))) (v : Value) :
    (w.setCell ⟨B, 0, none⟩ v).heap[B]? = some (.cells #[v, u1, u2] 34 (0, 0)) ∧ (w.setCell ⟨B, 1, none⟩ v).heap[B]? = some (.cells #[u0, v, u2] 34 (0, 0)) ∧ (w.setCell ⟨B, 2, none⟩ v).heap[B]? = some (.cells #[u0, u1, v] 34 (0, 0)) := by
  refine ⟨?_, ?_, ?_⟩
  · have := heap_setCell_same w B 0 _ 34 v h
    simpa using this
  · have := heap_setCell_same w B 1 _ 34 v h
    simpa using this
  · have := heap_setCell_same w B 2 _ 34 v h
    simpa using this
theorem OB.set34 {B i : Nat} {u0 u1 u2 : Value} (h : OB base N w cl rl fl ms c) (hB : w.heap[B]? = some (.cells #[u0, u1, u2] 34 (0, 0))) (v : Value) : OB base N (w.setCell ⟨B, i, none⟩ v) cl rl fl ms c :=
  h.far ((Fr.refl (fun k => k = B) w).setCell (p := ⟨B, i, none⟩) (fun _ => rfl) v) (fun k hk _ => ⟨#[u0, u1, u2], 34, by subst hk; exact hB, by decide, by decide, by decide, by decide⟩)
end
end Go.Proofs.Ytfalhljidnpmgaa
