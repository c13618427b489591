/- Three disks, apart from one another. No condition. -/
import Derived.Test.YtlnngeafhinpkaaE5
set_option linter.unusedVariables false
set_option linter.unusedSimpArgs false
namespace Go.Proofs.Ytlnngeafhinpkaa
open Go.RowKit

structure Dk where
  B : Nat
  bd : Nat
  bv : Nat
abbrev Dk.foot (a : Dk) (pv : Value) : Nat → Prop := Foot a.B a.bd a.bv pv
/-- Three disks, newer than w, apart from one another and from X. -/
structure T3 (X : Nat → Prop) (w wr : World) (a b c : Dk) (n : Nat) (s1 s2 s3 : St) : Prop where
  ds : ∃ p1 p2 p3, IsDisk wr a.B a.bd a.bv p1 n s1 ∧ IsDisk wr b.B b.bd b.bv p2 n s2 ∧ IsDisk wr c.B c.bd c.bv p3 n s3 ∧
    (∀ k, a.foot p1 k → ¬ (k < w.heap.size ∨ X k)) ∧ (∀ k, b.foot p2 k → ¬ (k < w.heap.size ∨ X k)) ∧ (∀ k, c.foot p3 k → ¬ (k < w.heap.size ∨ X k)) ∧
    (∀ k, a.foot p1 k → ¬ b.foot p2 k) ∧ (∀ k, b.foot p2 k → ¬ c.foot p3 k) ∧ (∀ k, c.foot p3 k → ¬ a.foot p1 k)
  fr : Fr (fun k => w.heap.size ≤ k) w wr
  q : ∀ k, X k → k < wr.heap.size
section
variable {X : Nat → Prop} {w wr : World} {a b c : Dk} {n : Nat} {s1 s2 s3 : St}
theorem T3.turn (h : T3 X w wr a b c n s1 s2 s3) : T3 X w wr b c a n s2 s3 s1 := by
  obtain ⟨⟨p1, p2, p3, h1, h2, h3, x1, x2, x3, y1, y2, y3⟩, f, q⟩ := h
  exact ⟨⟨p2, p3, p1, h2, h3, h1, x2, x3, x1, y2, y3, y1⟩, f, q⟩
def T3R (X : Nat → Prop) (w wr : World) (a b c : Dk) (n : Nat) (r : Value) (s1 s2 s3 : St) (e : Ending) (w' : World) : Prop :=
  e = .returned r ∧ T3 X w w' a b c n s1 s2 s3 ∧ ∀ k, X k → w'.heap[k]? = wr.heap[k]?
/-- A call on the first. -/
theorem t3_of (h : T3 X w wr a b c n s1 s2 s3) {f : Nat} {args : Array Value} {r : Value} {s1' : St} (hc : ∀ Q, Lh Q w wr a.B a.bd a.bv n s1 → Calls Try.prog f args wr (LhR Q w wr a.B a.bd a.bv n r s1')) :
    Calls Try.prog f args wr (T3R X w wr a b c n r s1' s2 s3) := by
  obtain ⟨⟨p1, p2, p3, h1, h2, h3, x1, x2, x3, y1, y2, y3⟩, f, q⟩ := h
  have hl : Lh (fun k => X k ∨ b.foot p2 k ∨ c.foot p3 k) w wr a.B a.bd a.bv n s1 := by
    refine ⟨⟨p1, h1, fun k hk => ?_⟩, f, fun k hk => ?_⟩
    · rintro (e | e | e | e)
      · exact x1 k hk (.inl e)
      · exact x1 k hk (.inr e)
      · exact y1 k hk e
      · exact y3 k e hk
    · rcases hk with e | e | e
      · exact q k e
      · exact h2.lt k e
      · exact h3.lt k e
  refine (hc _ hl).mono ?_
  rintro e w' ⟨rfl, ⟨⟨p1', h1', z1⟩, f', q'⟩, hk, hsz⟩
  refine ⟨rfl, ⟨⟨p1', p2, p3, h1', h2.keep (fun k hf => hk k (.inr (.inl hf))), h3.keep (fun k hf => hk k (.inr (.inr hf))), ?_, x2, x3, ?_, y2, ?_⟩, f', fun k hx => q' k (.inl hx)⟩, fun k hx => hk k (.inl hx)⟩
  · intro k hf hh
    rcases hh with hh | hh
    · exact z1 k hf (.inl hh)
    · exact z1 k hf (.inr (.inl hh))
  · exact fun k hf hh => z1 k hf (.inr (.inr (.inl hh)))
  · exact fun k hf hh => z1 k hh (.inr (.inr (.inr hf)))
theorem T3R.back {r : Value} {e : Ending} {w' : World} (h : T3R X w wr a b c n r s1 s2 s3 e w') : T3R X w wr c a b n r s3 s1 s2 e w' := ⟨h.1, h.2.1.turn.turn, h.2.2⟩
theorem T3R.turn {r : Value} {e : Ending} {w' : World} (h : T3R X w wr a b c n r s1 s2 s3 e w') : T3R X w wr b c a n r s2 s3 s1 e w' := ⟨h.1, h.2.1.turn, h.2.2⟩
theorem t3_of2 (h : T3 X w wr a b c n s1 s2 s3) {f : Nat} {args : Array Value} {r : Value} {s2' : St} (hc : ∀ Q, Lh Q w wr b.B b.bd b.bv n s2 → Calls Try.prog f args wr (LhR Q w wr b.B b.bd b.bv n r s2')) :
    Calls Try.prog f args wr (T3R X w wr a b c n r s1 s2' s3) := (t3_of h.turn hc).mono fun _ _ hh => hh.back
theorem t3_of3 (h : T3 X w wr a b c n s1 s2 s3) {f : Nat} {args : Array Value} {r : Value} {s3' : St} (hc : ∀ Q, Lh Q w wr c.B c.bd c.bv n s3 → Calls Try.prog f args wr (LhR Q w wr c.B c.bd c.bv n r s3')) :
    Calls Try.prog f args wr (T3R X w wr a b c n r s1 s2 s3') := (t3_of h.turn.turn hc).mono fun _ _ hh => hh.turn
theorem T3.box (h : T3 X w wr a b c n s1 s2 s3) (o : Obj) : T3 (fun k => X k ∨ k = wr.heap.size) w (wr.alloc o) a b c n s1 s2 s3 := by
  obtain ⟨⟨p1, p2, p3, h1, h2, h3, x1, x2, x3, y1, y2, y3⟩, f, q⟩ := h
  have e1 := fun k hk => Below.heap_alloc wr o k hk
  have xx : ∀ {a : Dk} {p : Value} {s : St}, IsDisk wr a.B a.bd a.bv p n s → (∀ k, a.foot p k → ¬ (k < w.heap.size ∨ X k)) → ∀ k, a.foot p k → ¬ (k < w.heap.size ∨ (X k ∨ k = wr.heap.size)) := fun hd hx k hk => by
    rintro (e | e | e)
    · exact hx k hk (.inl e)
    · exact hx k hk (.inr e)
    · have := hd.lt k hk; omega
  exact ⟨⟨p1, p2, p3, h1.keep (fun k hk => e1 k (h1.lt k hk)), h2.keep (fun k hk => e1 k (h2.lt k hk)), h3.keep (fun k hk => e1 k (h3.lt k hk)), xx h1 x1, xx h2 x2, xx h3 x3, y1, y2, y3⟩, f.alloc o, fun k hk => by
    rcases hk with e | e
    · have := q k e; simp; omega
    · simp; omega⟩
theorem T3.less {Y : Nat → Prop} (h : T3 X w wr a b c n s1 s2 s3) (hY : ∀ k, Y k → X k) : T3 Y w wr a b c n s1 s2 s3 := by
  obtain ⟨⟨p1, p2, p3, h1, h2, h3, x1, x2, x3, y1, y2, y3⟩, f, q⟩ := h
  have xx : ∀ {a : Dk} {p : Value}, (∀ k, a.foot p k → ¬ (k < w.heap.size ∨ X k)) → ∀ k, a.foot p k → ¬ (k < w.heap.size ∨ Y k) := fun hx k hk => by
    rintro (e | e)
    · exact hx k hk (.inl e)
    · exact hx k hk (.inr (hY k e))
  exact ⟨⟨p1, p2, p3, h1, h2, h3, xx x1, xx x2, xx x3, y1, y2, y3⟩, f, fun k hk => q k (hY k hk)⟩
theorem T3.box3 (h : T3 X w wr a b c n s1 s2 s3) (U V Z : Obj) : T3 (fun k => k = wr.heap.size + 2) w (((wr.alloc U).alloc V).alloc Z) a b c n s1 s2 s3 := by
  have h1 := ((((h.box U).box V).box Z).less (Y := fun k => k = ((wr.alloc U).alloc V).heap.size) (fun k hk => .inr hk))
  have e : ((wr.alloc U).alloc V).heap.size = wr.heap.size + 2 := by simp
  rwa [e] at h1
theorem T3.drew (h : T3 X w wr a b c n s1 s2 s3) : T3 X w wr.drew a b c n s1 s2 s3 := by
  obtain ⟨⟨p1, p2, p3, h1, h2, h3, x1, x2, x3, y1, y2, y3⟩, f, q⟩ := h
  exact ⟨⟨p1, p2, p3, h1.keep (fun k hk => rfl), h2.keep (fun k hk => rfl), h3.keep (fun k hk => rfl), x1, x2, x3, y1, y2, y3⟩, f.drew, q⟩
theorem T3.lh1 (h : T3 X w wr a b c n s1 s2 s3) : Lh X w wr a.B a.bd a.bv n s1 := by
  obtain ⟨⟨p1, p2, p3, h1, h2, h3, x1, x2, x3, y1, y2, y3⟩, f, q⟩ := h
  exact ⟨⟨p1, h1, x1⟩, f, q⟩
def NewAt (n : Nat) (w : World) (B bd bv : Nat) (w' : World) : Prop := IsDisk w' B bd bv (.slice none 0 0) n (fresh n) ∧ Fr (fun _ => False) w w' ∧ w.heap.size ≤ B ∧ w.heap.size ≤ bd ∧ w.heap.size ≤ bv
/-- Three new disks. -/
theorem T3.start {w w1 w2 w3 w4 : World} {B1 bd1 bv1 B2 bd2 bv2 B3 bd3 bv3 : Nat} (f1 : Fr (fun k => w.heap.size ≤ k) w w1)
    (h2 : NewAt n w1 B1 bd1 bv1 w2) (h3 : NewAt n w2 B2 bd2 bv2 w3) (h4 : NewAt n w3 B3 bd3 bv3 w4) : T3 (fun _ => False) w w4 ⟨B1, bd1, bv1⟩ ⟨B2, bd2, bv2⟩ ⟨B3, bd3, bv3⟩ n (fresh n) (fresh n) (fresh n) := by
  obtain ⟨d1, g1, b11, b12, b13⟩ := h2
  obtain ⟨d2, g2, b21, b22, b23⟩ := h3
  obtain ⟨d3, g3, b31, b32, b33⟩ := h4
  have z1 := f1.size
  have z2 := g1.size
  have z3 := g2.size
  have z4 := g3.size
  have r1 : ∀ k, Foot B1 bd1 bv1 (.slice none 0 0) k → w1.heap.size ≤ k := by
    rintro k (e | e | e | e)
    · omega
    · omega
    · omega
    · simp [Value.ownBlock] at e
  have r2 : ∀ k, Foot B2 bd2 bv2 (.slice none 0 0) k → w2.heap.size ≤ k := by
    rintro k (e | e | e | e)
    · omega
    · omega
    · omega
    · simp [Value.ownBlock] at e
  have r3 : ∀ k, Foot B3 bd3 bv3 (.slice none 0 0) k → w3.heap.size ≤ k := by
    rintro k (e | e | e | e)
    · omega
    · omega
    · omega
    · simp [Value.ownBlock] at e
  have l1 := fun k hk => d1.lt k hk
  have l2 := fun k hk => d2.lt k hk
  refine ⟨⟨_, _, _, d1.keep (fun k hk => (g3.block k (by have := l1 k hk; omega) (fun h => h)).trans (g2.block k (l1 k hk) (fun h => h))), d2.keep (fun k hk => g3.block k (l2 k hk) (fun h => h)), d3, ?_, ?_, ?_, ?_, ?_, ?_⟩, ?_, fun _ h => h.elim⟩
  · intro k hk hh
    rcases hh with hh | hh
    · have := r1 k hk; omega
    · exact hh
  · intro k hk hh
    rcases hh with hh | hh
    · have := r2 k hk; omega
    · exact hh
  · intro k hk hh
    rcases hh with hh | hh
    · have := r3 k hk; omega
    · exact hh
  · intro k hk hh
    have := l1 k hk
    have := r2 k hh
    omega
  · intro k hk hh
    have := l2 k hk
    have := r3 k hh
    omega
  · intro k hk hh
    have := r3 k hk
    have := l1 k hh
    omega
  · exact ((f1.then g1 (fun _ _ h => h.elim)).then g2 (fun _ _ h => h.elim)).then g3 (fun _ _ h => h.elim)
end
end Go.Proofs.Ytlnngeafhinpkaa
