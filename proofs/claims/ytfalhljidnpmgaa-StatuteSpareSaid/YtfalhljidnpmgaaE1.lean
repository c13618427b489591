/- The frame of a statement that a law answers true; what the statements' arguments hold. No condition. -/
import Derived.Test.YtfalhljidnpmgaaRows
import Derived.Test.YtfalhljidnpmgaaE0
import Derived.ProofKit
import Derived.OpenShut
import Derived.Deep.Slices
import Derived.Deep.Strs
import Derived.Lib.SmallJoins
set_option linter.unusedVariables false
set_option linter.unusedSimpArgs false
namespace Go.Proofs.Ytfalhljidnpmgaa
open Go.ChangeShapes Go.WideShapes Go.ChangeAt Go.RowKit Go.Proofs.Statute

theorem trodAll_below {H : Type} {enc : TypeId × Value → H} {P : Program} (hl : laidOutB P = true) {W W' : World} (hb : Below W.heap.size W W') :
    ∀ (ts : List TypeId) (vs : List Value) (ds : List (DataW H)) (p : List MemPlace), (∀ t ∈ ts, P.readableRec t = true ∧ t < P.types.size) → (∀ x ∈ p, x.block < W.heap.size) →
      DataW.TrodAll enc P W 0 (fun _ => true) true ts vs ds p → DataW.TrodAll enc P W' 0 (fun b => decide (b < W.heap.size)) true ts vs ds p
  | [], vs, ds, p, _, _, h => by
    obtain ⟨rfl, rfl, rfl⟩ := trodAll_nil h
    exact trodAll_mk0
  | t :: ts, vs, ds, p, hr, hp, h => by
    obtain ⟨v, vs', d, ds', p0, q0, rfl, rfl, rfl, h0, r0⟩ := trodAll_cons h
    have h0' := Below.trod hl (hr t (by simp)).1 (hr t (by simp)).2 h0 hb (fun x hx => hp x (by simp [hx]))
    exact trodAll_cons_mk h0' (trodAll_below hl hb ts vs' ds' q0 (fun t ht => hr t (by simp [ht])) (fun x hx => hp x (by simp [hx])) r0)
theorem laidOut : laidOutB Try.prog = true := by kernel_rfl
/-- What a law leaves: true, and old memory as it was. -/
theorem law_post {H : Type} {enc : TypeId × Value → H} {fn : Func} {s : ChangeSpec} {apart : Bool} {W W' : World} {args : Array Value} {ds : List (DataW H)} {p : List MemPlace} {e : Ending}
    (hv : s.vars = []) (hres : fn.resultTypes = #[4]) (hs : (s.fn H (ds ++ [])).results = [.lit (.bool true)]) (ha : (s.fn H (ds ++ [])).args = ds) (hgv : (s.fn H (ds ++ [])).vars = [])
    (hr : ∀ t ∈ fn.params.toList, Try.prog.readableRec t = true ∧ t < Try.prog.types.size)
    (hW : DataW.Whole enc Try.prog fn.params.toList s.vars apart W args.toList ds [] p) (hA : DataW.TrodAll enc Try.prog W 0 (fun _ => true) true fn.params.toList args.toList ds p)
    (h : Yes true W e W') : ∃ v, e = .returned v ∧ ChangeSpec.post enc Try.prog fn s apart true false false W args v W' := by
  obtain ⟨rfl, hf⟩ := h
  have hb : Below W.heap.size W W' := hf.below (Nat.le_refl _) (fun k hk => hk.elim)
  refine ⟨_, rfl, ds, [], p, [], p, [], hW, ?_, ?_, ?_, ?_, fun h => by cases h⟩
  · rw [hs, hres]
    exact trodAll_cons_mk (shut_bool Try.underlying4 _) trodAll_mk0
  · rw [ha]
    exact trodAll_below laidOut hb _ _ _ _ hr (fun x hx => hW.lt x hx) hA
  · rw [hv, hgv]
    exact rfl
  · exact hb.frame _

section
variable {H : Type} {enc : TypeId × Value → H} {P : Program} {w : World}
theorem addr_of_cell {a : Addr} {v : Value} (h : w.cell? a = some v) : a = ⟨a.block, a.off, none⟩ := by
  obtain ⟨b, o, s⟩ := a
  cases s with
  | none => rfl
  | some x =>
    simp only [World.cell?] at h
    split at h <;> simp at h
theorem reads_of_trod {α : Type} [Inhabited α] {t e : TypeId} {sz : Nat} {en : α → List Value} {Pr : α → Prop} {v : Value} {d : DataW H} {ps : List MemPlace} (ht : P.underlying t = some (.slice e)) (hc : P.cellsOf e = sz) (hs : 0 < sz)
    (hR : ∀ n cs y, DataW.trod enc P w 0 (fun _ => true) true n e cs = some y → cs.length = sz → ∃ x, cs = en x ∧ Pr x)
    {fuel : Nat} (h : DataW.trod enc P w 0 (fun _ => true) true fuel t [v] = some (d, ps)) : ∃ xs : List α, Reads (fun k => k < w.heap.size) w sz en v xs ∧ ∀ x ∈ xs, Pr x := by
  rcases Go.Deep.open_slice ht h with ⟨hn, _⟩ | ⟨a, len, cap, m, n, D, Pl, hv, hb, hl, hm, hmm, hx, hi⟩
  · simp at hn
    subst hn
    exact ⟨[], ⟨none, 0, rfl, by simp, by simp, fun h => by simp at h⟩, fun x hx => by simp at hx⟩
  · simp at hv
    subst hv
    have hml : len ≤ m := by rw [hmm]; simp; exact hl
    have hx : ∀ i, i < len → ∃ x : α, (en x).length = sz ∧ Pr x ∧ ∀ j, j < sz → w.cell? (a.add (i * sz + j)) = (en x)[j]? := by
      intro i hil
      obtain ⟨cs, h1, h2⟩ := hi i (by omega)
      rw [hc] at h1
      obtain ⟨_, h3, h4⟩ := World.cells?_some h1
      obtain ⟨x, rfl, hp⟩ := hR n cs _ h2 h3
      refine ⟨x, h3, hp, fun j hj => ?_⟩
      rw [← h4 j hj, Go.Deep.add_add]
    obtain ⟨f, hf⟩ := Go.Deep.choose_lt hx
    refine ⟨(List.range len).map f, ⟨some a, cap, by simp, by simpa using hl, by simp only [maxLen] at hm; exact hm, fun hp => ?_⟩, fun x hx => ?_⟩
    · have hp' : 0 < len := by simpa using hp
      obtain ⟨hl0, _, hc0⟩ := hf 0 hp'
      have h00 := hc0 0 hs
      simp only [Nat.zero_mul, Nat.add_zero] at h00
      rw [List.getElem?_eq_getElem (by omega)] at h00
      have e0 : a.add 0 = a := by simp [Addr.add]
      rw [e0] at h00
      have ha := addr_of_cell h00
      refine ⟨a.block, a.off, by rw [← ha], World.block_lt_of_cell? w _ h00, World.block_lt_of_cell? w _ h00, fun i hi j u hu => ?_⟩
      have hil : i < len := by simpa using hi
      have hfx : ((List.range len).map f)[i] = f i := by simp
      rw [hfx] at hu
      obtain ⟨h1, _, h3⟩ := hf i hil
      have hj : j < sz := by
        have := (List.getElem?_eq_some_iff.1 hu).1
        rwa [h1] at this
      rw [← hu, ← h3 j hj]
      congr 1
      rw [ha]
      unfold Addr.add
      split
      · rename_i h
        have : i * sz = 0 ∧ j = 0 := by omega
        simp [this.1, this.2]
      · simp [Nat.add_assoc]
    · obtain ⟨i, hi, rfl⟩ := List.mem_map.1 hx
      exact (hf i (List.mem_range.1 hi)).2.1
end
theorem cells3 : Try.prog.cellsOf 3 = 1 := by kernel_rfl
theorem cells4 : Try.prog.cellsOf 4 = 1 := by kernel_rfl
theorem cells25 : Try.prog.cellsOf 25 = 3 := by kernel_rfl
theorem cells26 : Try.prog.cellsOf 26 = 4 := by kernel_rfl
theorem cells27 : Try.prog.cellsOf 27 = 2 := by kernel_rfl
theorem cells63 : Try.prog.cellsOf 63 = 4 := by kernel_rfl
theorem cells74 : Try.prog.cellsOf 74 = 6 := by kernel_rfl
theorem cells77 : Try.prog.cellsOf 77 = 3 := by kernel_rfl
section
variable {H : Type} {enc : TypeId × Value → H} {w : World} {v : Value} {d : DataW H} {ps : List MemPlace} {fuel : Nat}
theorem fld {cs : List Value} {o n : Nat} {x : Value} (h : (cs.drop o).take n = [x]) : cs[o]? = some x := by
  have h0 : ((cs.drop o).take n)[0]? = some x := by rw [h]; rfl
  rw [List.getElem?_take] at h0
  split at h0
  · simpa using h0
  · cases h0
set_option maxRecDepth 100000 in
theorem ints_of_array {n : Nat} {t : TypeId} {cs : List Value} {x : DataW H × List MemPlace} (ht : Try.prog.underlying t = some (.array n 3)) (h : DataW.trod enc Try.prog w 0 (fun _ => true) true fuel t cs = some x) (hl : cs.length = n) : ∃ zs : List Int, cs = ints zs ∧ zs.length = n ∧ ∀ z ∈ zs, I64 z := by
  obtain ⟨xs, m, _, _, _, hxl, hf⟩ := DataW.trod_array ht h
  have hx : ∀ i, i < n → ∃ z : Int, cs[i]? = some (.int .i64 z) ∧ I64 z := by
    intro i hi
    have h1 := hf i hi
    rw [cells3, Nat.mul_one, List.getElem?_eq_getElem (by omega)] at h1
    obtain ⟨z, h2, _, h3⟩ := DataW.trod_int Try.underlying3 h1
    exact ⟨z, fld h2, bounds_i64 h3⟩
  obtain ⟨f, hf2⟩ := Go.Deep.choose_lt hx
  refine ⟨(List.range n).map f, ?_, by simp, fun z hz => ?_⟩
  · apply List.ext_getElem?
    intro i
    rcases Nat.lt_or_ge i n with hi | hi
    · rw [(hf2 i hi).1]
      simp [ints, hi]
    · rw [List.getElem?_eq_none (by omega), List.getElem?_eq_none (by simp [ints]; omega)]
  · obtain ⟨i, hi, rfl⟩ := List.mem_map.1 hz
    exact (hf2 i (List.mem_range.1 hi)).2
set_option maxRecDepth 100000 in
theorem a6_of {n : Nat} {cs : List Value} {y : DataW H × List MemPlace} (h : DataW.trod enc Try.prog w 0 (fun _ => true) true n 74 cs = some y) (hl : cs.length = 6) : ∃ x : A6, cs = encA6 x ∧ (I64 x.a ∧ I64 x.b ∧ I64 x.c ∧ I64 x.d ∧ I64 x.e ∧ I64 x.f) := by
  obtain ⟨zs, rfl, hz, hb⟩ := ints_of_array Try.underlying74 h hl
  match zs, hz with
  | [a, b, c, d, e, f], _ => exact ⟨⟨a, b, c, d, e, f⟩, rfl, hb a (by simp), hb b (by simp), hb c (by simp), hb d (by simp), hb e (by simp), hb f (by simp)⟩
set_option maxRecDepth 100000 in
theorem a3_of {n : Nat} {cs : List Value} {y : DataW H × List MemPlace} (h : DataW.trod enc Try.prog w 0 (fun _ => true) true n 77 cs = some y) (hl : cs.length = 3) : ∃ x : A3, cs = encA3 x ∧ (I64 x.a ∧ I64 x.b ∧ I64 x.c) := by
  obtain ⟨zs, rfl, hz, hb⟩ := ints_of_array Try.underlying77 h hl
  match zs, hz with
  | [a, b, c], _ => exact ⟨⟨a, b, c⟩, rfl, hb a (by simp), hb b (by simp), hb c (by simp)⟩
set_option maxRecDepth 100000 in
theorem open_nums {base : Nat} (hv : Value.okWide Try.prog w .any base 25 v) (h : DataW.Trod enc Try.prog w 0 (fun _ => true) true 25 v d ps) :
    ∃ s1 s2 s3 x, v = .agg #[s1, s2, s3] ∧ NW (fun k => k < w.heap.size) w s1 s2 s3 x := by
  obtain ⟨v0, v1, v2, y0, y1, y2, n, rfl, rfl, rfl, h0, h1, h2⟩ := Go.Joins.open_agg3 Try.underlying25 (by kernel_rfl) cells25 hv h
  have h0' : DataW.trod enc Try.prog w 0 (fun _ => true) true n 22 [v0] = some (y0.1, y0.2) := h0
  have h1' : DataW.trod enc Try.prog w 0 (fun _ => true) true n 23 [v1] = some (y1.1, y1.2) := h1
  have h2' : DataW.trod enc Try.prog w 0 (fun _ => true) true n 22 [v2] = some (y2.1, y2.2) := h2
  obtain ⟨xs, r0, b0⟩ := reads_of_trod (en := encA6) (Pr := fun x => I64 x.a ∧ I64 x.b ∧ I64 x.c ∧ I64 x.d ∧ I64 x.e ∧ I64 x.f) Try.underlying22 cells74 (by decide) (fun n cs y h hl => a6_of h hl) h0'
  obtain ⟨ys, r1, b1⟩ := reads_of_trod (en := encA3) (Pr := fun x => I64 x.a ∧ I64 x.b ∧ I64 x.c) Try.underlying23 cells77 (by decide) (fun n cs y h hl => a3_of h hl) h1'
  obtain ⟨zs, r2, b2⟩ := reads_of_trod (en := encA6) (Pr := fun x => I64 x.a ∧ I64 x.b ∧ I64 x.c ∧ I64 x.d ∧ I64 x.e ∧ I64 x.f) Try.underlying22 cells74 (by decide) (fun n cs y h hl => a6_of h hl) h2'
  exact ⟨v0, v1, v2, ⟨xs, ys, zs⟩, rfl, r0, r1, r2, b0, b1, b2⟩
set_option maxRecDepth 100000 in
theorem okWide_arr {base n : Nat} {t e : TypeId} (ht : Try.prog.underlying t = some (.array n e)) (h : Value.okWide Try.prog w .any base t v) : ∃ cs, v = .agg cs ∧ cs.size = Try.prog.cellsOf t := by
  simp only [Value.okWide, ht] at h
  obtain ⟨cs, h1, h2, _⟩ := h
  exact ⟨cs, h1, h2⟩
set_option maxRecDepth 100000 in
theorem open_four {base : Nat} (hv : Value.okWide Try.prog w .any base 26 v) (h : DataW.Trod enc Try.prog w 0 (fun _ => true) true 26 v d ps) : ∃ a b c e : Int, v = .agg #[.int .i64 a, .int .i64 b, .int .i64 c, .int .i64 e] ∧ I64 a ∧ I64 b ∧ I64 c ∧ I64 e := by
  obtain ⟨cs, rfl, hs⟩ := okWide_arr Try.underlying26 hv
  rw [cells26] at hs
  obtain ⟨fuel, hf⟩ := h
  obtain ⟨zs, hz, hzl, hb⟩ := ints_of_array Try.underlying26 hf (by simpa [Value.cells] using hs)
  match zs, hzl with
  | [a, b, c, e], _ => exact ⟨a, b, c, e, by
      have : cs.toList = ints [a, b, c, e] := by simpa [Value.cells] using hz
      rw [← Array.toArray_toList (xs := cs), this]
      rfl, hb a (by simp), hb b (by simp), hb c (by simp), hb e (by simp)⟩
set_option maxRecDepth 100000 in
theorem open_two {base : Nat} (hv : Value.okWide Try.prog w .any base 27 v) (h : DataW.Trod enc Try.prog w 0 (fun _ => true) true 27 v d ps) : ∃ a b : Int, v = .agg #[.int .i64 a, .int .i64 b] ∧ I64 a ∧ I64 b := by
  obtain ⟨cs, rfl, hs⟩ := okWide_arr Try.underlying27 hv
  rw [cells27] at hs
  obtain ⟨fuel, hf⟩ := h
  obtain ⟨zs, hz, hzl, hb⟩ := ints_of_array Try.underlying27 hf (by simpa [Value.cells] using hs)
  match zs, hzl with
  | [a, b], _ => exact ⟨a, b, by
      have : cs.toList = ints [a, b] := by simpa [Value.cells] using hz
      rw [← Array.toArray_toList (xs := cs), this]
      rfl, hb a (by simp), hb b (by simp)⟩
set_option maxRecDepth 100000 in
theorem d_of {n : Nat} {cs : List Value} {y : DataW H × List MemPlace} (h : DataW.trod enc Try.prog w 0 (fun _ => true) true n 63 cs = some y) (hl : cs.length = 4) : ∃ x : Fnd, cs = encD x ∧ True := by
  obtain ⟨xs, m, _, _, _, hx, hf⟩ := DataW.trod_struct Try.underlying63 h
  have f0 := hf 0 _ rfl
  have f1 := hf 1 _ rfl
  have f2 := hf 2 _ rfl
  have f3 := hf 3 _ rfl
  simp only [List.size_toArray, List.length_cons, List.length_nil] at hx
  match xs, hx with
  | [x0, x1, x2, x3], _ =>
    obtain ⟨a, e0, _, b0⟩ := DataW.trod_int Try.underlying3 f0
    obtain ⟨b, e1, _⟩ := DataW.trod_bool Try.underlying4 f1
    obtain ⟨c, e2, _, b2⟩ := DataW.trod_int Try.underlying3 f2
    obtain ⟨d, e3, _, b3⟩ := DataW.trod_int Try.underlying3 f3
    match cs, hl with
    | [c0, c1, c2, c3], _ =>
      have g0 := fld e0
      have g1 := fld e1
      have g2 := fld e2
      have g3 := fld e3
      simp at g0 g1 g2 g3
      subst g0 g1 g2 g3
      exact ⟨⟨a, b, c, d⟩, rfl, trivial⟩
set_option maxRecDepth 100000 in
theorem open_finds {base : Nat} (hv : Value.okWide Try.prog w .any base 28 v) (h : DataW.Trod enc Try.prog w 0 (fun _ => true) true 28 v d ps) : ∃ l, Reads (fun k => k < w.heap.size) w 4 encD v l := by
  obtain ⟨x, y, u, rfl⟩ := okWide_slice Try.underlying28 hv
  obtain ⟨fuel, hf⟩ := h
  have hf' : DataW.trod enc Try.prog w 0 (fun _ => true) true fuel 28 [.slice x y u] = some (d, ps) := hf
  obtain ⟨l, r, _⟩ := reads_of_trod (en := encD) (Pr := fun _ => True) Try.underlying28 cells63 (by decide) (fun n cs y h hl => d_of h hl) hf'
  exact ⟨l, r⟩
set_option maxRecDepth 100000 in
theorem open_i64 {base : Nat} (hv : Value.okWide Try.prog w .any base 3 v) (h : DataW.Trod enc Try.prog w 0 (fun _ => true) true 3 v d ps) : ∃ a : Int, v = .int .i64 a ∧ I64 a := by
  obtain ⟨a, rfl, rfl, rfl, wa⟩ := open_int Try.underlying3 hv h
  exact ⟨a, rfl, bounds_i64 wa⟩
end
end Go.Proofs.Ytfalhljidnpmgaa
