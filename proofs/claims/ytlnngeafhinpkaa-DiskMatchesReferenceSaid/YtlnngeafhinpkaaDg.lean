/- What slices of the statements' arguments hold, read off the form's own reading. No condition. -/
import Derived.Test.YtlnngeafhinpkaaDf
import Derived.Deep.Slices
import Derived.Deep.Strs
set_option linter.unusedVariables false
set_option linter.unusedSimpArgs false
namespace Go.Proofs.Ytlnngeafhinpkaa
open Go.ChangeShapes Go.WideShapes Go.ChangeAt Go.RowKit

def Elems {α : Type} (n₀ : Nat) (w : World) (sz : Nat) (R : World → α → List Value → Prop) (v : Value) (xs : List α) : Prop :=
  ∃ a c, v = .slice a xs.length c ∧ xs.length ≤ c ∧ c ≤ 9223372036854775807 ∧ (0 < xs.length → ∃ b o, a = some ⟨b, o, none⟩ ∧ b < n₀ ∧ ∀ i x, xs[i]? = some x → ∃ cs, R w x cs ∧ cs.length = sz ∧ ∀ j, j < sz → w.cell? ⟨b, o + i * sz + j, none⟩ = cs[j]?)

theorem Elems.below {α : Type} {n₀ : Nat} {A B : World} {sz : Nat} {R : World → α → List Value → Prop} {v : Value} {xs : List α} (hR : ∀ x cs, R A x cs → R B x cs) (hb : Below n₀ A B) (h : Elems n₀ A sz R v xs) : Elems n₀ B sz R v xs := by
  obtain ⟨a, c, e, h1, h2, h3⟩ := h
  refine ⟨a, c, e, h1, h2, fun hp => ?_⟩
  obtain ⟨b, o, ea, hbn, hx⟩ := h3 hp
  refine ⟨b, o, ea, hbn, fun i x hi => ?_⟩
  obtain ⟨cs, r, hl, hc⟩ := hx i x hi
  exact ⟨cs, hR x cs r, hl, fun j hj => (hb.cell (p := ⟨b, o + i * sz + j, none⟩) hbn).trans (hc j hj)⟩

section
variable {H : Type} {enc : TypeId × Value → H} {P : Program} {w : World}

theorem addr_of_cell {a : Addr} {v : Value} (h : w.cell? a = some v) : a = ⟨a.block, a.off, none⟩ := by
  obtain ⟨b, o, s⟩ := a
  cases s with
  | none => rfl
  | some x =>
    simp only [World.cell?] at h
    split at h <;> simp at h

theorem elems_of_trod {α : Type} [Inhabited α] {t e : TypeId} {sz : Nat} {R : World → α → List Value → Prop} {v : Value} {d : DataW H} {ps : List MemPlace} (ht : P.underlying t = some (.slice e)) (hc : P.cellsOf e = sz) (hs : 0 < sz)
    (hR : ∀ n cs y, DataW.trod enc P w 0 (fun _ => true) true n e cs = some y → cs.length = sz → ∃ x, R w x cs)
    {fuel : Nat} (h : DataW.trod enc P w 0 (fun _ => true) true fuel t [v] = some (d, ps)) : ∃ xs : List α, Elems w.heap.size w sz R v xs := by
  rcases Go.Deep.open_slice ht h with ⟨hn, _⟩ | ⟨a, len, cap, m, n, D, Pl, hv, hb, hl, hm, hmm, hx, hi⟩
  · simp at hn
    subst hn
    exact ⟨[], none, 0, rfl, by simp, by simp, fun h => by simp at h⟩
  · simp at hv
    subst hv
    have hml : len ≤ m := by rw [hmm]; simp; exact hl
    have hx : ∀ i, i < len → ∃ x : α, ∃ cs, R w x cs ∧ cs.length = sz ∧ ∀ j, j < sz → w.cell? (a.add (i * sz + j)) = cs[j]? := by
      intro i hil
      obtain ⟨cs, h1, h2⟩ := hi i (by omega)
      rw [hc] at h1
      obtain ⟨_, h3, h4⟩ := World.cells?_some h1
      obtain ⟨x, hx⟩ := hR n cs _ h2 h3
      refine ⟨x, cs, hx, h3, fun j hj => ?_⟩
      rw [← h4 j hj, Go.Deep.add_add]
    obtain ⟨f, hf⟩ := Go.Deep.choose_lt hx
    refine ⟨(List.range len).map f, some a, cap, by simp, by simpa using hl, by simp only [maxLen] at hm; exact hm, fun hp => ?_⟩
    have hp' : 0 < len := by simpa using hp
    obtain ⟨cs0, _, hl0, hc0⟩ := hf 0 hp'
    have h00 := hc0 0 hs
    simp only [Nat.zero_mul, Nat.add_zero] at h00
    rw [List.getElem?_eq_getElem (by omega)] at h00
    have e0 : a.add 0 = a := by simp [Addr.add]
    rw [e0] at h00
    have ha := addr_of_cell h00
    refine ⟨a.block, a.off, by rw [← ha], World.block_lt_of_cell? w _ h00, fun i x hi => ?_⟩
    have hil : i < len := by
      rcases Nat.lt_or_ge i len with h | h
      · exact h
      · rw [List.getElem?_eq_none (by simpa using h)] at hi; cases hi
    have hfx : f i = x := by simpa [hil] using hi
    obtain ⟨cs, h1, h2, h3⟩ := hf i hil
    rw [hfx] at h1
    refine ⟨cs, h1, h2, fun j hj => ?_⟩
    rw [← h3 j hj]
    congr 1
    rw [ha]
    unfold Addr.add
    split
    · rename_i h
      have : i * sz = 0 ∧ j = 0 := by omega
      simp [this.1, this.2]
    · simp [Nat.add_assoc]
end

/-! ### the kinds of elements -/
def RInt (_ : World) (x : Int) (cs : List Value) : Prop := cs = [.int .i64 x] ∧ -9223372036854775808 ≤ x ∧ x ≤ 9223372036854775807
def RBool (_ : World) (x : Bool) (cs : List Value) : Prop := cs = [.bool x]
structure WP where
  off : Int
  s : ByteArray
  sync : Bool
  deriving Inhabited
def RWP (_ : World) (x : WP) (cs : List Value) : Prop := cs = [.int .i64 x.off, .string x.s, .bool x.sync] ∧ -9223372036854775808 ≤ x.off ∧ x.off ≤ 9223372036854775807 ∧ x.s.size ≤ 9223372036854775807
structure SP where
  call : Int
  off : Int
  n : Int
  s : ByteArray
  keep : List Int
  deriving Inhabited
def RSP (w : World) (x : SP) (cs : List Value) : Prop := ∃ kv, cs = [.int .i64 x.call, .int .i64 x.off, .int .i64 x.n, .string x.s, kv] ∧ Elems w.heap.size w 1 RInt kv x.keep ∧
  (-9223372036854775808 ≤ x.call ∧ x.call ≤ 9223372036854775807) ∧ (-9223372036854775808 ≤ x.off ∧ x.off ≤ 9223372036854775807) ∧ (-9223372036854775808 ≤ x.n ∧ x.n ≤ 9223372036854775807) ∧ x.s.size ≤ 9223372036854775807

theorem cells3 : Try.prog.cellsOf 3 = 1 := by kernel_rfl
theorem cells4 : Try.prog.cellsOf 4 = 1 := by kernel_rfl
theorem cells9 : Try.prog.cellsOf 9 = 1 := by kernel_rfl
theorem cells37 : Try.prog.cellsOf 37 = 1 := by kernel_rfl
theorem cells53 : Try.prog.cellsOf 53 = 3 := by kernel_rfl
theorem cells39 : Try.prog.cellsOf 39 = 5 := by kernel_rfl

section
variable {H : Type} {enc : TypeId × Value → H} {w : World} {v : Value} {d : DataW H} {ps : List MemPlace} {fuel : Nat}
theorem rint_of {n : Nat} {cs : List Value} {y : DataW H × List MemPlace} (h : DataW.trod enc Try.prog w 0 (fun _ => true) true n 3 cs = some y) : ∃ x, RInt w x cs := by
  obtain ⟨x, h1, _, h2⟩ := DataW.trod_int Try.underlying3 h
  have := bounds_i64 h2
  exact ⟨x, h1, this.1, this.2⟩
theorem open_intsE (h : DataW.trod enc Try.prog w 0 (fun _ => true) true fuel 37 [v] = some (d, ps)) : ∃ xs, Elems w.heap.size w 1 RInt v xs :=
  elems_of_trod Try.underlying37 cells3 (by omega) (fun n cs y h _ => rint_of h) h
theorem open_boolsE (h : DataW.trod enc Try.prog w 0 (fun _ => true) true fuel 58 [v] = some (d, ps)) : ∃ xs, Elems w.heap.size w 1 RBool v xs :=
  elems_of_trod Try.underlying58 cells4 (by omega) (fun n cs y h _ => by
    obtain ⟨x, h1, _⟩ := DataW.trod_bool Try.underlying4 h
    exact ⟨x, h1⟩) h
theorem open_slice37 (h : DataW.trod enc Try.prog w 0 (fun _ => true) true fuel 37 [v] = some (d, ps)) : ∃ a len cap, v = .slice a len cap ∧ len ≤ cap ∧ cap ≤ 9223372036854775807 ∧ (a = none → len = 0 ∧ cap = 0) := by
  rcases Go.Deep.open_slice Try.underlying37 h with ⟨hn, _⟩ | ⟨a, len, cap, m, n, D, Pl, hv, hb, hl, hm, hmm, hx, hi⟩
  · simp at hn
    subst hn
    exact ⟨none, 0, 0, rfl, by simp, by simp, fun _ => ⟨rfl, rfl⟩⟩
  · simp at hv
    subst hv
    exact ⟨some a, len, cap, rfl, hl, by simp only [maxLen] at hm; exact hm, fun h => by simp at h⟩
theorem open_str (h : DataW.trod enc Try.prog w 0 (fun _ => true) true fuel 9 [v] = some (d, ps)) : ∃ s : ByteArray, v = .string s ∧ s.size ≤ 9223372036854775807 := by
  obtain ⟨s, h1, _, h2⟩ := DataW.trod_string Try.underlying9 h
  exact ⟨s, by simpa using h1, by simp only [maxLen] at h2; exact h2⟩
theorem fld {cs : List Value} {o n : Nat} {x : Value} (h : (cs.drop o).take n = [x]) : cs[o]? = some x := by
  have h0 : ((cs.drop o).take n)[0]? = some x := by rw [h]; rfl
  rw [List.getElem?_take] at h0
  split at h0
  · simpa using h0
  · cases h0
set_option maxRecDepth 100000 in
theorem rwp_of {n : Nat} {cs : List Value} {y : DataW H × List MemPlace} (h : DataW.trod enc Try.prog w 0 (fun _ => true) true n 53 cs = some y) (hl : cs.length = 3) : ∃ x, RWP w x cs := by
  obtain ⟨xs, m, _, _, _, hx, hf⟩ := DataW.trod_struct Try.underlying53 h
  have f0 := hf 0 _ rfl
  have f1 := hf 1 _ rfl
  have f2 := hf 2 _ rfl
  simp only [List.size_toArray, List.length_cons, List.length_nil] at hx
  match xs, hx with
  | [x0, x1, x2], _ =>
    obtain ⟨a, e0, _, b0⟩ := DataW.trod_int Try.underlying3 f0
    obtain ⟨s, e1, _, b1⟩ := DataW.trod_string Try.underlying9 f1
    obtain ⟨b, e2, _⟩ := DataW.trod_bool Try.underlying4 f2
    have bb := bounds_i64 b0
    match cs, hl with
    | [c0, c1, c2], _ =>
      have g0 := fld e0
      have g1 := fld e1
      have g2 := fld e2
      simp at g0 g1 g2
      subst g0 g1 g2
      exact ⟨⟨a, s, b⟩, rfl, bb.1, bb.2, by simp only [maxLen] at b1; exact b1⟩
theorem open_writesE (h : DataW.trod enc Try.prog w 0 (fun _ => true) true fuel 51 [v] = some (d, ps)) : ∃ xs, Elems w.heap.size w 3 RWP v xs :=
  elems_of_trod Try.underlying51 cells53 (by omega) (fun n cs y h hl => rwp_of h hl) h
set_option maxRecDepth 100000 in
theorem rsp_of {n : Nat} {cs : List Value} {y : DataW H × List MemPlace} (h : DataW.trod enc Try.prog w 0 (fun _ => true) true n 39 cs = some y) (hl : cs.length = 5) : ∃ x, RSP w x cs := by
  obtain ⟨xs, m, _, _, _, hx, hf⟩ := DataW.trod_struct Try.underlying39 h
  have f0 := hf 0 _ rfl
  have f1 := hf 1 _ rfl
  have f2 := hf 2 _ rfl
  have f3 := hf 3 _ rfl
  have f4 := hf 4 _ rfl
  simp only [List.size_toArray, List.length_cons, List.length_nil] at hx
  match xs, hx with
  | [x0, x1, x2, x3, x4], _ =>
    obtain ⟨a, e0, _, b0⟩ := DataW.trod_int Try.underlying3 f0
    obtain ⟨b, e1, _, b1⟩ := DataW.trod_int Try.underlying3 f1
    obtain ⟨c, e2, _, b2⟩ := DataW.trod_int Try.underlying3 f2
    obtain ⟨s, e3, _, b3⟩ := DataW.trod_string Try.underlying9 f3
    have bb0 := bounds_i64 b0
    have bb1 := bounds_i64 b1
    have bb2 := bounds_i64 b2
    match cs, hl with
    | [c0, c1, c2, c3, c4], _ =>
      have g0 := fld e0
      have g1 := fld e1
      have g2 := fld e2
      have g3 := fld e3
      simp at g0 g1 g2 g3
      subst g0 g1 g2 g3
      have f4' : DataW.trod enc Try.prog w 0 (fun _ => true) true m 37 [c4] = some (x4.1, x4.2) := f4
      obtain ⟨ks, hk⟩ := open_intsE f4'
      exact ⟨⟨a, b, c, s, ks⟩, c4, rfl, hk, bb0, bb1, bb2, by simp only [maxLen] at b3; exact b3⟩
theorem open_stepsE (h : DataW.trod enc Try.prog w 0 (fun _ => true) true fuel 32 [v] = some (d, ps)) : ∃ xs, Elems w.heap.size w 5 RSP v xs :=
  elems_of_trod Try.underlying32 cells39 (by omega) (fun n cs y h hl => rsp_of h hl) h
end
end Go.Proofs.Ytlnngeafhinpkaa
