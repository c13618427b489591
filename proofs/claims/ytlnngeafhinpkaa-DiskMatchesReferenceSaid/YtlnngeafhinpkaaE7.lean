/- A disk, a row of bytes and a row of ints. No condition. -/
import Derived.Test.YtlnngeafhinpkaaF6
set_option linter.unusedVariables false
set_option linter.unusedSimpArgs false
namespace Go.Proofs.Ytlnngeafhinpkaa
open Go.RowKit

/-- A block of another type is none of a disk's. -/
theorem other_foot {w : World} {B bd bv n : Nat} {pv : Value} {s : St} (h : IsDisk w B bd bv pv n s) {k : Nat} {y : Array Value} {t : TypeId} (hk : w.heap[k]? = some (.cells y t (0, 0))) (ht : t ≠ 65 ∧ t ≠ 5 ∧ t ≠ 69) : ¬ Foot B bd bv pv k := by
  rintro (rfl | rfl | rfl | e)
  · exact ne_types h.hB hk (fun e => ht.1 e.symm) rfl
  · exact ne_types h.hd hk (fun e => ht.2.1 e.symm) rfl
  · exact ne_types h.hv hk (fun e => ht.2.1 e.symm) rfl
  · exact own_ne h.hp hk (fun e => ht.2.2 e.symm) e
theorem own_block {w : World} {base : Nat} {e : TypeId} {sz n : Nat} {v : Value} {xs : List Value} (h : w.ownsRow base e sz v n xs) {k : Nat} (hk : v.ownBlock = some k) : ∃ y, w.heap[k]? = some (.cells y e (0, 0)) := by
  rcases h.2 with ⟨rfl, _⟩ | ⟨g, cap, cur, rfl, hb, hgg, rest⟩
  · simp [Value.ownBlock] at hk
  · simp [Value.ownBlock] at hk
    subst hk
    exact ⟨_, hgg⟩
section
variable {Q : Nat → Prop} {w wr : World} {B bd bv n g : Nat} {s : St} {cur : Bs} {v : Value} {ks : List Int}
theorem Lo.more {Q' : Nat → Prop} (h : Lo Q w wr B bd bv n g s cur) (hq : ∀ k, Q' k → ∃ y t, wr.heap[k]? = some (.cells y t (0, 0)) ∧ t ≠ 65 ∧ t ≠ 5 ∧ t ≠ 69) : Lo (fun k => Q k ∨ Q' k) w wr B bd bv n g s cur where
  held := by
    obtain ⟨pv, h1, h2⟩ := h.held
    refine ⟨pv, h1, fun k hk => ?_⟩
    rintro (e | e | e | e)
    · exact h2 k hk (.inl e)
    · exact h2 k hk (.inr (.inl e))
    · exact h2 k hk (.inr (.inr e))
    · obtain ⟨y, t, h3, h4⟩ := hq k e
      exact other_foot h1 h3 h4 hk
  row := h.row
  ge := h.ge
  fr := h.fr
  lc := h.lc
  q := fun k hk => by
    rcases hk with e | e
    · exact h.q k e
    · obtain ⟨y, t, h3, h4⟩ := hq k e
      exact row_lt h3
theorem Lo.less {Q' : Nat → Prop} (h : Lo Q w wr B bd bv n g s cur) (hQ : ∀ k, Q' k → Q k) : Lo Q' w wr B bd bv n g s cur where
  held := h.held.mono (fun k _ hk => by rcases hk with e | e | e; exact .inl e; exact .inr (.inl e); exact .inr (.inr (hQ k e)))
  row := h.row
  ge := h.ge
  fr := h.fr
  lc := h.lc
  q := fun k hk => h.q k (hQ k hk)

structure Lr (Q : Nat → Prop) (w wr : World) (B bd bv n g : Nat) (s : St) (cur : Bs) (v : Value) (ks : List Int) : Prop where
  lo : Lo Q w wr B bd bv n g s cur
  own : wr.ownsRow w.heap.size 3 1 v ks.length (ints ks)
theorem Lr.ownQ (h : Lr Q w wr B bd bv n g s cur v ks) : Lo (fun k => Q k ∨ v.ownBlock = some k) w wr B bd bv n g s cur :=
  h.lo.more (fun k hk => by obtain ⟨y, hy⟩ := own_block h.own hk; exact ⟨y, 3, hy, by decide⟩)
theorem Lr.of {r : Value} {s' : St} (h : Lr Q w wr B bd bv n g s cur v ks) {e : Ending} {w' : World} (hh : LoR (fun k => Q k ∨ v.ownBlock = some k) w wr B bd bv n g r s' cur e w') :
    e = .returned r ∧ Lr Q w w' B bd bv n g s' cur v ks ∧ ∀ k, Q k → w'.heap[k]? = wr.heap[k]? :=
  ⟨hh.1, ⟨hh.2.1.less (fun k hk => .inl hk), own_kept h.own (fun k hk => hh.2.2 k (.inr hk))⟩, fun k hk => hh.2.2 k (.inl hk)⟩
def LrR (Q : Nat → Prop) (w wr : World) (B bd bv n g : Nat) (r : Value) (s : St) (cur : Bs) (v : Value) (ks : List Int) (e : Ending) (w' : World) : Prop :=
  e = .returned r ∧ Lr Q w w' B bd bv n g s cur v ks ∧ ∀ k, Q k → w'.heap[k]? = wr.heap[k]?
theorem lr_write (h : Lr Q w wr B bd bv n g s cur v ks) (off : Nat) (str : ByteArray) (hl : 0 ≤ s.left ∧ s.left ≤ 9223372036854775807) (ho : s.off = false) (hp : s.pend.length ≤ 1000000) (hf : off + str.size ≤ n) :
    Calls Try.prog 21 #[.pointer (some ⟨B, 0, none⟩), .int .i64 off, .string str] wr (LrR Q w wr B bd bv n g (.int .i64 0) (wrote s off str) cur v ks) :=
  (lo_write h.ownQ off str hl ho hp hf).mono fun _ _ => h.of
theorem lr_write_off (h : Lr Q w wr B bd bv n g s cur v ks) (off : Nat) (str : ByteArray) (hl : 0 ≤ s.left ∧ s.left ≤ 9223372036854775807) (ho : s.off = true) (hp : s.pend.length ≤ 1000000) (hf : off + str.size ≤ n) :
    Calls Try.prog 21 #[.pointer (some ⟨B, 0, none⟩), .int .i64 off, .string str] wr (LrR Q w wr B bd bv n g (.int .i64 91) s cur v ks) := by
  have hn2 := h.lo.n2
  have hw : writeS s n off str = (91, s) := by
    unfold writeS
    rw [if_pos ho]
  have := held_write h.ownQ.held h.ownQ.inK off str (by omega) (by omega) hl hp (by omega)
  rw [hw] at this
  exact this.mono fun _ _ hh => h.of (h.ownQ.of_held hh)
theorem lr_sync (h : Lr Q w wr B bd bv n g s cur v ks) : Calls Try.prog 23 #[.pointer (some ⟨B, 0, none⟩)] wr (LrR Q w wr B bd bv n g (.int .i64 (syncS s).1) (syncS s).2 cur v ks) :=
  (lo_sync h.ownQ).mono fun _ _ => h.of
theorem lr_cut (h : Lr Q w wr B bd bv n g s cur v ks) (k : Int) : Calls Try.prog 24 #[.pointer (some ⟨B, 0, none⟩), .int .i64 k] wr (LrR Q w wr B bd bv n g (.int .i64 (cutS s k).1) (cutS s k).2 cur v ks) :=
  (lo_cut h.ownQ k).mono fun _ _ => h.of
theorem lr_crash (h : Lr Q w wr B bd bv n g s cur v ks) (hf : Fits n s.pend) (hpl : s.pend.length ≤ 1000000) (hkl : ks.length ≤ 1000000) (torn : Int) (ht1 : -9223372036854775808 ≤ torn) (ht2 : torn ≤ 9223372036854775807) :
    Calls Try.prog 25 #[.pointer (some ⟨B, 0, none⟩), v, .int .i64 torn] wr (LrR Q w wr B bd bv n g (.int .i64 0) (crashS s ks torn) cur v ks) :=
  (lo_crash h.ownQ hf hpl v ks (keeps_own h.own) hkl torn ht1 ht2).mono fun _ _ => h.of
theorem Lr.alloc (h : Lr Q w wr B bd bv n g s cur v ks) (o : Obj) : Lr Q w (wr.alloc o) B bd bv n g s cur v ks := ⟨h.lo.alloc o, h.own.alloc o⟩
theorem Lr.box3 (h : Lr Q w wr B bd bv n g s cur v ks) (X Y Z : Obj) : Lr (fun k => k = wr.heap.size + 2) w (((wr.alloc X).alloc Y).alloc Z) B bd bv n g s cur v ks := ⟨h.lo.box3 X Y Z, ((h.own.alloc _).alloc _).alloc _⟩
def LrPut (Q : Nat → Prop) (w wr : World) (B bd bv n g : Nat) (s : St) (cur : Bs) (v : Value) (ks : List Int) (o : Nat) (str : ByteArray) (e : Ending) (w' : World) : Prop :=
  e = .returned (.tuple #[]) ∧ Lr Q w w' B bd bv n g s (put cur o str.data.toList) v ks ∧ Fr (fun k => k = g) wr w'
theorem lr_put (h : Lr Q w wr B bd bv n g s cur v ks) (o : Nat) (str : ByteArray) (hf : o + str.size ≤ n) : Calls Try.prog 27 #[.slice (some ⟨g, 0, none⟩) n n, .int .i64 o, .string str] wr (LrPut Q w wr B bd bv n g s cur v ks o str) := by
  refine (lo_put h.lo o str hf).mono ?_
  rintro e w' ⟨rfl, h1, h2⟩
  refine ⟨rfl, ⟨h1, own_kept h.own (fun k hk => h2.block k (own_base h.own k hk).2 ?_)⟩, h2⟩
  obtain ⟨y, hy⟩ := own_block h.own hk
  exact ne_types hy h.lo.row (by decide)
theorem Lr.appended (h : Lr Q w wr B bd bv n g s cur v ks) {w' : World} {v' : Value} {ks' : List Int} (ho : w'.ownsRow w.heap.size 3 1 v' ks'.length (ints ks')) (hg : wr.grownBy w' v.ownBlock) : Lr (fun _ => False) w w' B bd bv n g s cur v' ks' where
  own := ho
  lo := by
    obtain ⟨pv, h1, h2⟩ := h.lo.held
    have hne : ∀ {k t} {y : Array Value}, wr.heap[k]? = some (.cells y t (0, 0)) → t ≠ 3 → some k ≠ v.ownBlock := fun hk ht e => own_ne h.own hk (fun e => ht e.symm) e.symm
    refine ⟨⟨pv, h1.keep (fun k hk => hg.block k (h1.lt k hk) ?_), fun k hk => ?_⟩, (hg.block g (row_lt h.lo.row) (hne h.lo.row (by decide))).trans h.lo.row, h.lo.ge, h.lo.fr.trans (own_grown h.own hg), h.lo.lc, fun _ h => h.elim⟩
    · intro e
      obtain ⟨y, hy⟩ := own_block h.own e.symm
      exact other_foot h1 hy (by decide) hk
    · rintro (e | e | e)
      · exact h2 k hk (.inl e)
      · exact h2 k hk (.inr (.inl e))
      · exact e
theorem lr_read_all (h : Lr Q w wr B bd bv n g s cur v ks) (ho : s.off = false) :
    Calls Try.prog 14 #[.pointer (some ⟨B, 0, none⟩), .int .i64 0, .int .i64 n] wr fun e w' => e = .returned (.tuple #[.string ⟨s.vis.toArray⟩, .int .i64 0]) ∧ wr = w' := by
  have := lo_read h.lo 0 n (by omega) (by omega)
  rw [read_all s n ho (by obtain ⟨pv, h1, _⟩ := h.lo.held; exact h1.lv)] at this
  exact this
theorem Lr.start {w w1 w2 : World} {n B bd bv : Nat} {s : St} (b1 : Fr (fun k => w.heap.size ≤ k) w w1) (hL : Live w.heap.size w2 B bd bv n s) (f2 : Fr (fun k => w.heap.size ≤ k) w1 w2) :
    Lr (fun _ => False) w (w2.alloc (.cells (madeCells #[.int .u8 0] n) 5)) B bd bv n w2.heap.size s (zeros n) (.slice none 0 0) [] where
  lo := {
    held := by
      obtain ⟨pv, h1, h2⟩ := hL
      refine ⟨pv, h1.keep (fun k hk => Below.heap_alloc _ _ _ (h1.lt k hk)), fun k hk => ?_⟩
      rintro (e | e | e)
      · have := h2 k hk; omega
      · have := h1.lt k hk; omega
      · exact e
    row := by rw [made_zeros]; exact heap_alloc_new _ _
    ge := Nat.le_trans b1.size f2.size
    fr := (b1.trans f2).alloc _
    lc := by simp [zeros]
    q := fun _ h => h.elim }
  own := World.ownsRow_nil _ _ _ _
end
end Go.Proofs.Ytlnngeafhinpkaa
