/- Write, Sync and Cut of the reference disk. No condition beside the sizes. -/
import Derived.Test.YtlnngeafhinpkaaJ2
set_option linter.unusedVariables false
set_option linter.unusedSimpArgs false
namespace Go.Proofs.Ytlnngeafhinpkaa
open Go.RowKit

section
variable {w : World} {R n : Nat} {dv pv : Value} {s : St}
theorem IsRef.set (h : IsRef w R dv pv n s) (i : Nat) (u dv' pv' : Value) (s' : St) (hrow : [dv, pv, .bool s.off, .int .i64 s.left].set i u = [dv', pv', .bool s'.off, .int .i64 s'.left])
    (hd' : w.ownsRow 0 5 1 dv' n (bvs s'.dur)) (hp' : w.ownsRow 0 80 2 pv' s'.pend.length (pcells s'.pend)) (ld' : s'.dur.length = n) (fit' : Fits n s'.pend) : IsRef (w.setCell ⟨R, i, none⟩ u) R dv' pv' n s' where
  hR := by
    have h1 := heap_setCell_same w R i _ 43 u h.hR
    rw [h1, ← hrow]
    simp
  hd := own_kept hd' (fun k e => Below.heap_setCell _ _ _ _ (fun e' => own_ne hd' h.hR (by decide) (by rw [e]; exact congrArg some e')))
  hp := own_kept hp' (fun k e => Below.heap_setCell _ _ _ _ (fun e' => own_ne hp' h.hR (by decide) (by rw [e]; exact congrArg some e')))
  ld := ld'
  n1 := h.n1
  n2 := h.n2
  fit := fit'
theorem IsRef.set3 (h : IsRef w R dv pv n s) (l : Int) : IsRef (w.setCell ⟨R, 3, none⟩ (.int .i64 l)) R dv pv n { s with left := l } := h.set 3 _ dv pv { s with left := l } rfl h.hd h.hp h.ld h.fit
theorem IsRef.set2 (h : IsRef w R dv pv n s) (o : Bool) : IsRef (w.setCell ⟨R, 2, none⟩ (.bool o)) R dv pv n { s with off := o } := h.set 2 _ dv pv { s with off := o } rfl h.hd h.hp h.ld h.fit
theorem IsRef.set1 (h : IsRef w R dv pv n s) (pv' : Value) (p : List (Nat × ByteArray)) (hp : w.ownsRow 0 80 2 pv' p.length (pcells p)) (hf : Fits n p) : IsRef (w.setCell ⟨R, 1, none⟩ pv') R dv pv' n { s with pend := p } :=
  h.set 1 _ dv pv' { s with pend := p } rfl h.hd hp h.ld hf
theorem IsRef.set1nil (h : IsRef w R dv pv n s) : IsRef (w.setCell ⟨R, 1, none⟩ (.slice none 0 0)) R dv (.slice none 0 0) n { s with pend := [] } :=
  h.set1 _ [] (World.ownsRow_nil _ _ _ _) (by simp [Fits])
theorem IsRef.set0 (h : IsRef w R dv pv n s) (dv' : Value) (d : Bs) (hd : w.ownsRow 0 5 1 dv' n (bvs d)) (hl : d.length = n) : IsRef (w.setCell ⟨R, 0, none⟩ dv') R dv' pv n { s with dur := d } :=
  h.set 0 _ dv' pv { s with dur := d } rfl hd h.hp hl h.fit
end
theorem own_zero {w : World} {base : Nat} {e : TypeId} {sz n : Nat} {v : Value} {xs : List Value} (h : w.ownsRow base e sz v n xs) : w.ownsRow 0 e sz v n xs := by
  refine ⟨h.1, ?_⟩
  rcases h.2 with hn | ⟨g, cap, cur, rfl, hb, rest⟩
  · exact .inl hn
  · exact .inr ⟨g, cap, cur, rfl, Nat.zero_le _, rest⟩

set_option maxRecDepth 100000 in
set_option maxHeartbeats 1600000 in
theorem rcut_any {w : World} {R n : Nat} {dv pv : Value} {s : St} (h : IsRef w R dv pv n s) (k : Int) :
    Calls Try.prog 32 #[.pointer (some ⟨R, 0, none⟩), .int .i64 k] w (RDid w R dv pv n (.int .i64 (cutS s k).1) (cutS s k).2) := by
  have c2 := h.c2
  have c3 := h.c3
  have f2 := h.fz 2
  have f3 := h.fz 3
  have H := hid h
  clear h
  cases hs : s.off with
  | true =>
    rw [hs] at c2
    have HS := hid hs
    clear hs
    go_enter Try.func32, Try.ntmps32
    go_wp2
    go_ret
    have e : cutS s k = (91, s) := by unfold cutS; rw [if_pos HS.out]
    rw [e]
    exact RDid.same H.out
  | false =>
    rw [hs] at c2
    have HS := hid hs
    clear hs
    by_cases hk : k < 0
    · go_enter Try.func32, Try.ntmps32
      go_wp2
      go_ret
      have e : cutS s k = (2, s) := by unfold cutS; rw [if_neg (by rw [HS.out]; simp), if_pos hk]
      rw [e]
      exact RDid.same H.out
    · have e : cutS s k = (0, { s with off := k == 0, left := k }) := by unfold cutS; rw [if_neg (by rw [HS.out]; simp), if_neg hk]
      rw [e]
      clear e
      go_enter Try.func32, Try.ntmps32
      go_wp2
      go_ret
      refine ⟨rfl, ⟨dv, pv, (H.out.set3 k).set2 (k == 0), fun k hk => .inl hk⟩, ?_⟩
      exact ((Fr.refl _ _).set1 (.inl rfl) _ _).set1 (.inl rfl) _ _

set_option maxRecDepth 100000 in
set_option maxHeartbeats 1600000 in
theorem rsync_any {w : World} {R n : Nat} {dv pv : Value} {s : St} (h : IsRef w R dv pv n s) (hv : s.vis = lay s.dur s.pend) (hpl : s.pend.length ≤ 1000000) :
    Calls Try.prog 31 #[.pointer (some ⟨R, 0, none⟩)] w (RDid w R dv pv n (.int .i64 (syncS s).1) (syncS s).2) := by
  have c2 := h.c2
  have H := hid h
  have HV := hid hv
  clear h hv
  cases hs : s.off with
  | true =>
    rw [hs] at c2
    have HS := hid hs
    clear hs
    go_enter Try.func31, Try.ntmps31
    go_wp2
    go_ret
    have e : syncS s = (91, s) := by unfold syncS; rw [if_pos HS.out]
    rw [e]
    exact RDid.same H.out
  | false =>
    rw [hs] at c2
    have e : syncS s = (0, { s with dur := lay s.dur s.pend, pend := [] }) := by unfold syncS; rw [if_neg (by rw [hs]; simp), HV.out]
    rw [e]
    clear e
    have HLL := hid (lay_length n s.pend s.dur H.out.ld H.out.fit)
    go_enter Try.func31, Try.ntmps31
    go_wp2_with fail
    refine (visible_any H.out hpl).mono ?_
    rintro e w1 ⟨g1, cap1, rfl, hr1, f1⟩
    have H1 := hid (H.out.frame f1 (fun _ _ h => h))
    have H2 := hid (H1.out.set0 _ _ (own_zero hr1) HLL.out)
    have H3 := hid H2.out.set1nil
    have ROW := hid hr1
    have F1 := hid f1
    have g0 := H1.out.fz 0
    have k0 := H1.out.c0
    have g1 := H2.out.fz 1
    have k1 := H2.out.c1
    clear hr1 f1
    go_wp2
    go_ret
    refine ⟨rfl, ⟨_, _, H3.out, ?_⟩, ?_⟩
    · rintro k (e | e | e)
      · exact .inl (.inl e)
      · exact .inr (own_base ROW.out k e).1
      · simp [Value.ownBlock] at e
    · exact (F1.out.none.set1 (.inl rfl) _ _).set1 (.inl rfl) _ _

theorem info80 : (Try.prog.info? 80).map (fun i => (i.zero, i.size, i.bytes)) = some (some (.agg #[.int .i64 0, .string ByteArray.empty]), 2, 24) := by kernel_rfl
/-- append(l, x) on a row of writes of one's own. -/
theorem append_change {w : World} {base : Nat} {v : Value} {p : List (Nat × ByteArray)} (h : w.ownsRow base 80 2 v p.length (pcells p)) (hb : base ≤ w.heap.size) (hk : p.length ≤ 1000000) (x : Nat × ByteArray)
    {ops : Array Oper} {rest : List Oper} {o : Oper} {a : Act} {Q : Exit → Act → World → Prop} (hgd : o.guard = none) (s y : Operand) (ho : o.op = .call { callee := .builtin .append, args := #[s, y], argTypes := #[41, 41] })
    {W : World} (hW : W = w.alloc (.cells #[.int .i64 x.1, .string x.2] 80)) (hs : a.eval s = v) (hy : a.eval y = .slice (some ⟨w.heap.size, 0, none⟩) 1 1)
    (hh : ∀ g c w', w'.ownsRow base 80 2 (.slice (some ⟨g, 0, none⟩) (p.length + 1) c) (p ++ [x]).length (pcells (p ++ [x])) → Fr (fun k => v.ownBlock = some k) w w' → (∀ k, (Value.slice (some ⟨g, 0, none⟩) (p.length + 1) c).ownBlock = some k → v.ownBlock = some k ∨ w.heap.size ≤ k) → wpList Try.prog ops Q rest (a.put o.dst (.slice (some ⟨g, 0, none⟩) (p.length + 1) c)) w') :
    wpList Try.prog ops Q (o :: rest) a W := by
  subst hW
  obtain ⟨i0, hi0, hz0, hz1, hz2⟩ := info_parts info80
  refine wpList_append_lies _ hgd s y 41 ho base 80 i0 _ 2 24 Try.underlying41 hi0 hz0 hz1 hz2 rfl (by decide) v p.length (pcells p) hs (h.alloc _) ⟨w.heap.size, 0, none⟩ 1 1 [.int .i64 x.1, .string x.2] hy rfl (World.news_of_block (cs := #[.int .i64 x.1, .string x.2]) (t := 80) (fr := (0, 0)) (heap_alloc_new w _)) (by simp [Value.oneCell']) (by omega) (by unfold maxLen; omega) (by omega) (by simp; omega) (w.heap.size + 1) (by simp) ?_
  intro g c w' h1 h2 h3 _
  refine hh g c w' ?_ (((Fr.refl _ _).alloc _).grown h2 (fun k hk _ => hk)) ?_
  · rw [pcells_snoc, List.length_append]
    exact h1
  · intro k hk
    simp [Value.ownBlock] at hk
    subst hk
    rcases h3 with h3 | h3
    · exact .inl h3
    · exact .inr (by omega)
end Go.Proofs.Ytlnngeafhinpkaa
