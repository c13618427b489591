/- A disk beside a row of bytes, both newer than the arguments. No condition. -/
import Derived.Test.YtlnngeafhinpkaaE1
set_option linter.unusedVariables false
set_option linter.unusedSimpArgs false
namespace Go.Proofs.Ytlnngeafhinpkaa
open Go.RowKit

theorem fits_call (o : Int) (s : ByteArray) (y : Bool) (n : Nat) (h1 : -9223372036854775808 ≤ o) (h2 : o ≤ 9223372036854775807) (hs : s.size ≤ 9223372036854775807) (hn2 : n ≤ 1000000) :
    ∃ (P : Nat) (str : ByteArray), P + str.size ≤ n ∧ ∀ w, Calls Try.prog 26 #[.agg #[.int .i64 o, .string s, .bool y], .int .i64 n] w fun e w' => e = .returned (.agg #[.int .i64 P, .string str, .bool y]) ∧
      w' = (w.alloc (.cells #[.int .i64 P, .string str, .bool y] 53)).alloc (.cells #[.int .i64 P, .string str, .bool y] 53) := by
  have h := fits_in ⟨o, s, y⟩ n (by omega)
  obtain ⟨P, hP⟩ := Int.eq_ofNat_of_zero_le h.1
  refine ⟨P, (fitsF ⟨o, s, y⟩ n).s, by omega, fun w => ?_⟩
  have := fits_any ⟨o, s, y⟩ n w h1 h2 hs (by omega) (by omega)
  unfold WP.val WP.cells at this
  rw [hP] at this
  exact this

/-- The fields of a box that another call left alone. -/
theorem box_cells {a b : World} {q : Nat} {x y z : Value} (h : b.heap[q]? = a.heap[q]?) (ha : a.heap[q]? = some (.cells #[x, y, z] 53)) : b.cell? ⟨q, 0, none⟩ = some x ∧ b.cell? ⟨q, 1, none⟩ = some y ∧ b.cell? ⟨q, 2, none⟩ = some z := by
  have h' : b.heap[q]? = some (.cells [x, y, z].toArray 53 (0, 0)) := h.trans ha
  exact ⟨row_cell h' 0, row_cell h' 1, row_cell h' 2⟩
/-- K: the blocks that the disk is apart from, beside the old ones and g. -/
structure Lo (Q : Nat → Prop) (w wr : World) (B bd bv n g : Nat) (s : St) (cur : Bs) : Prop where
  held : Held (fun k => k < w.heap.size ∨ k = g ∨ Q k) wr B bd bv n s
  row : wr.heap[g]? = some (.cells (bvs cur).toArray 5 (0, 0))
  ge : w.heap.size ≤ g
  fr : Fr (fun k => w.heap.size ≤ k) w wr
  lc : cur.length = n
  q : ∀ k, Q k → k < wr.heap.size
section
variable {Q : Nat → Prop} {w wr : World} {B bd bv n g : Nat} {s : St} {cur : Bs}
theorem Lo.inK (h : Lo Q w wr B bd bv n g s cur) : ∀ k, (k < w.heap.size ∨ k = g ∨ Q k) → k < wr.heap.size := by
  rintro k (e | e | e)
  · exact Nat.lt_of_lt_of_le e h.fr.size
  · exact e ▸ row_lt h.row
  · exact h.q k e
theorem Lo.n2 (h : Lo Q w wr B bd bv n g s cur) : n ≤ 4194304 := by
  obtain ⟨pv, h1, _⟩ := h.held
  exact h1.n2
theorem Lo.alloc (h : Lo Q w wr B bd bv n g s cur) (o : Obj) : Lo Q w (wr.alloc o) B bd bv n g s cur where
  held := h.held.alloc o
  row := by rw [Below.heap_alloc _ _ _ (row_lt h.row)]; exact h.row
  ge := h.ge
  fr := h.fr.alloc o
  lc := h.lc
  q := fun k hk => by have := h.q k hk; simp; omega
theorem Lo.drewN (h : Lo Q w wr B bd bv n g s cur) (m : Nat) : Lo Q w (wr.drewN m) B bd bv n g s cur where
  held := h.held.frame (S := fun _ => False) ((Fr.refl _ _).drewN m) (fun _ h => h.elim)
  row := h.row
  ge := h.ge
  fr := h.fr.drewN m
  lc := h.lc
  q := h.q
/-- A new block, kept apart from now on. -/
theorem Lo.box (h : Lo Q w wr B bd bv n g s cur) (o : Obj) : Lo (fun k => k = wr.heap.size) w (wr.alloc o) B bd bv n g s cur where
  held := by
    obtain ⟨pv, h1, h2⟩ := h.held
    refine ⟨pv, h1.keep (fun k hk => Below.heap_alloc _ _ _ (h1.lt k hk)), fun k hk => ?_⟩
    rintro (e | e | e)
    · exact h2 k hk (.inl e)
    · exact h2 k hk (.inr (.inl e))
    · have := h1.lt k hk; omega
  row := by rw [Below.heap_alloc _ _ _ (row_lt h.row)]; exact h.row
  ge := h.ge
  fr := h.fr.alloc o
  lc := h.lc
  q := fun k hk => by simp; omega
theorem Lo.unbox (h : Lo Q w wr B bd bv n g s cur) : Lo (fun _ => False) w wr B bd bv n g s cur where
  held := h.held.mono (fun k _ hk => by rcases hk with e | e | e; exact .inl e; exact .inr (.inl e); exact e.elim)
  row := h.row
  ge := h.ge
  fr := h.fr
  lc := h.lc
  q := fun _ h => h.elim
theorem box3_row (wr : World) (X Y Z : Obj) : (((wr.alloc X).alloc Y).alloc Z).heap[wr.heap.size + 2]? = some Z := by
  have := heap_alloc_new ((wr.alloc X).alloc Y) Z
  simpa using this
theorem Lo.box3 (h : Lo Q w wr B bd bv n g s cur) (X Y Z : Obj) : Lo (fun k => k = wr.heap.size + 2) w (((wr.alloc X).alloc Y).alloc Z) B bd bv n g s cur := by
  have := ((h.alloc X).alloc Y).box Z
  have e : ((wr.alloc X).alloc Y).heap.size = wr.heap.size + 2 := by simp
  rwa [e] at this
theorem Lo.box_put (h : Lo Q w wr B bd bv n g s cur) {X Y : Obj} {x y z : Value} {w' : World} (f : Fr (fun k => k = g) (((wr.alloc X).alloc Y).alloc (.cells #[x, y, z] 53)) w') :
    w'.cell? ⟨wr.heap.size + 2, 0, none⟩ = some x ∧ w'.cell? ⟨wr.heap.size + 2, 1, none⟩ = some y ∧ w'.cell? ⟨wr.heap.size + 2, 2, none⟩ = some z :=
  box_cells (f.block (wr.heap.size + 2) (by simp) (by have := row_lt h.row; omega)) (box3_row _ _ _ _)
theorem Lo.ng (h : Lo Q w wr B bd bv n g s cur) {q : Nat} (hq : wr.heap.size ≤ q) : q ≠ g := by have := row_lt h.row; omega

def LoPut (Q : Nat → Prop) (w wr : World) (B bd bv n g : Nat) (s : St) (cur : Bs) (o : Nat) (str : ByteArray) (e : Ending) (w' : World) : Prop :=
  e = .returned (.tuple #[]) ∧ Lo Q w w' B bd bv n g s (put cur o str.data.toList) ∧ Fr (fun k => k = g) wr w'
theorem lo_put (h : Lo Q w wr B bd bv n g s cur) (o : Nat) (str : ByteArray) (hf : o + str.size ≤ n) : Calls Try.prog 27 #[.slice (some ⟨g, 0, none⟩) n n, .int .i64 o, .string str] wr (LoPut Q w wr B bd bv n g s cur o str) := by
  refine (put_any wr g n o cur str h.row h.lc h.n2 hf).mono ?_
  rintro e w' ⟨rfl, h1, h2⟩
  refine ⟨rfl, ⟨h.held.frame h2 (fun k hk => .inr (.inl hk)), h1, h.ge, h.fr.then h2 (fun i _ e => by have := h.ge; omega), ?_, fun k hk => Nat.lt_of_lt_of_le (h.q k hk) h2.size⟩, h2⟩
  rw [put_length _ _ _ (by rw [Array.length_toList]; have := h.lc; show o + str.size ≤ _; omega)]
  exact h.lc
theorem cells_of {a b : World} {q : Nat} (h : b.heap[q]? = a.heap[q]?) (i : Nat) : b.cell? ⟨q, i, none⟩ = a.cell? ⟨q, i, none⟩ := World.cell?_of_block h
def LoR (Q : Nat → Prop) (w wr : World) (B bd bv n g : Nat) (r : Value) (s : St) (cur : Bs) (e : Ending) (w' : World) : Prop :=
  e = .returned r ∧ Lo Q w w' B bd bv n g s cur ∧ ∀ k, Q k → w'.heap[k]? = wr.heap[k]?
theorem Lo.of_held (h : Lo Q w wr B bd bv n g s cur) {r : Value} {s' : St} {e : Ending} {w' : World} (hh : HeldR (fun k => k < w.heap.size ∨ k = g ∨ Q k) wr B bd bv n r s' e w') : LoR Q w wr B bd bv n g r s' cur e w' := by
  obtain ⟨h1, h2, h3⟩ := hh
  refine ⟨h1, ⟨h2, (h3.block g (row_lt h.row) (fun hn => hn (.inr (.inl rfl)))).trans h.row, h.ge, h.fr.then h3 (fun i _ hn => by have : ¬ i < w.heap.size := fun hi => hn (.inl hi); omega), h.lc, fun k hk => Nat.lt_of_lt_of_le (h.q k hk) h3.size⟩, fun k hk => h3.block k (h.q k hk) (fun hn => hn (.inr (.inr hk)))⟩
theorem lo_write (h : Lo Q w wr B bd bv n g s cur) (off : Nat) (str : ByteArray) (hl : 0 ≤ s.left ∧ s.left ≤ 9223372036854775807) (ho : s.off = false) (hp : s.pend.length ≤ 1000000) (hf : off + str.size ≤ n) :
    Calls Try.prog 21 #[.pointer (some ⟨B, 0, none⟩), .int .i64 off, .string str] wr (LoR Q w wr B bd bv n g (.int .i64 0) (wrote s off str) cur) := by
  have hn2 := h.n2
  have hw : writeS s n off str = (0, wrote s off str) := by
    unfold writeS
    rw [if_neg (by simp [ho]), if_pos (inside_true (by omega))]
    rfl
  have := held_write h.held h.inK off str (by omega) (by omega) hl hp (by omega)
  rw [hw] at this
  exact this.mono fun _ _ => h.of_held
theorem lo_sync (h : Lo Q w wr B bd bv n g s cur) : Calls Try.prog 23 #[.pointer (some ⟨B, 0, none⟩)] wr (LoR Q w wr B bd bv n g (.int .i64 (syncS s).1) (syncS s).2 cur) :=
  (held_sync h.held h.inK).mono fun _ _ => h.of_held
theorem lo_cut (h : Lo Q w wr B bd bv n g s cur) (k : Int) : Calls Try.prog 24 #[.pointer (some ⟨B, 0, none⟩), .int .i64 k] wr (LoR Q w wr B bd bv n g (.int .i64 (cutS s k).1) (cutS s k).2 cur) :=
  (held_cut h.held h.inK k).mono fun _ _ => h.of_held
theorem lo_crash (h : Lo Q w wr B bd bv n g s cur) (hf : Fits n s.pend) (hpl : s.pend.length ≤ 1000000) (kp : Value) (keep : List Int) (hk : Keeps wr kp keep) (hkl : keep.length ≤ 1000000) (torn : Int) (ht1 : -9223372036854775808 ≤ torn) (ht2 : torn ≤ 9223372036854775807) :
    Calls Try.prog 25 #[.pointer (some ⟨B, 0, none⟩), kp, .int .i64 torn] wr (LoR Q w wr B bd bv n g (.int .i64 0) (crashS s keep torn) cur) :=
  (held_crash h.held h.inK hf hpl kp keep hk hkl torn ht1 ht2).mono fun _ _ => h.of_held
theorem lo_read (h : Lo Q w wr B bd bv n g s cur) (off k : Int) (ho1 : -9223372036854775808 ≤ off) (ho2 : off ≤ 9223372036854775807) :
    Calls Try.prog 14 #[.pointer (some ⟨B, 0, none⟩), .int .i64 off, .int .i64 k] wr fun e w' => e = .returned (.tuple #[.string (readS s n off k).1, .int .i64 (readS s n off k).2]) ∧ wr = w' := held_read h.held off k ho1 ho2
/-- The whole disk. -/
theorem read_all (s : St) (n : Nat) (ho : s.off = false) (hv : s.vis.length = n) : readS s n 0 n = (⟨s.vis.toArray⟩, 0) := by
  unfold readS
  rw [if_neg (by simp [ho]), if_pos (inside_true (by omega))]
  simp [← hv]
/-- New, beside a new row of zeros. -/
theorem Lo.start {w w1 w2 : World} {n B bd bv : Nat} (b1 : Fr (fun k => w.heap.size ≤ k) w w1) (hL : Live w.heap.size w2 B bd bv n (fresh n)) (f2 : Fr (fun k => w.heap.size ≤ k) w1 w2) :
    Lo (fun _ => False) w (w2.alloc (.cells (madeCells #[.int .u8 0] n) 5)) B bd bv n w2.heap.size (fresh n) (zeros n) where
  held := by
    obtain ⟨pv, h1, h2⟩ := hL
    refine ⟨pv, h1.keep (fun k hk => Below.heap_alloc _ _ _ (h1.lt k hk)), fun k hk => ?_⟩
    rintro (e | e | e)
    · have := h2 k hk; omega
    · have := h1.lt k hk; omega
    · exact e
  row := by rw [made_zeros]; exact heap_alloc_new _ _
  ge := Nat.le_trans b1.size f2.size
  fr := (b1.trans f2).alloc _
  lc := by simp [zeros]
  q := fun _ h => h.elim
end
end Go.Proofs.Ytlnngeafhinpkaa
