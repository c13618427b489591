/- What a call leaves alone; lists as they lie in memory; the smallest functions of the statute. No condition beside the sizes. -/
import Derived.Test.YtfalhljidnpmgaaProg
import Derived.Test.YtfalhljidnpmgaaA0
import Derived.WalkKit
import Derived.WalkSpells
import Derived.WalkLawsBesides
import Derived.BigQuiet
import Derived.Deep.QuietTactic
import Derived.Deep.AppendLies
import Derived.Deep.RegionLaw
set_option linter.unusedVariables false
set_option linter.unusedSimpArgs false
namespace Go.Proofs.Ytfalhljidnpmgaa
open Go.RowKit Go.Proofs.Statute

theorem hid {p : Prop} (h : p) : Hid p := h
structure Fr (S : Nat → Prop) (w w' : World) : Prop where
  os : w'.os = w.os
  tape : w'.tape = w.tape
  output : w'.output = w.output
  size : w.heap.size ≤ w'.heap.size
  block : ∀ k, k < w.heap.size → ¬ S k → w'.heap[k]? = w.heap[k]?
theorem Fr.refl (S : Nat → Prop) (w : World) : Fr S w w := ⟨rfl, rfl, rfl, Nat.le_refl _, fun _ _ _ => rfl⟩
theorem Fr.trans {S : Nat → Prop} {a b c : World} (h : Fr S a b) (k : Fr S b c) : Fr S a c :=
  ⟨k.os.trans h.os, k.tape.trans h.tape, k.output.trans h.output, Nat.le_trans h.size k.size, fun i hi hs => (k.block i (Nat.lt_of_lt_of_le hi h.size) hs).trans (h.block i hi hs)⟩
/-- The second may touch what is new, too. -/
theorem Fr.then {S T : Nat → Prop} {a b c : World} (h : Fr S a b) (k : Fr T b c) (hT : ∀ i, i < a.heap.size → T i → S i) : Fr S a c :=
  ⟨k.os.trans h.os, k.tape.trans h.tape, k.output.trans h.output, Nat.le_trans h.size k.size, fun i hi hs => (k.block i (Nat.lt_of_lt_of_le hi h.size) (fun ht => hs (hT i hi ht))).trans (h.block i hi hs)⟩
theorem Fr.mono {S T : Nat → Prop} {a b : World} (h : Fr S a b) (hT : ∀ i, i < a.heap.size → S i → T i) : Fr T a b :=
  ⟨h.os, h.tape, h.output, h.size, fun i hi hs => h.block i hi (fun ht => hs (hT i hi ht))⟩
theorem Fr.non {S : Nat → Prop} {a b : World} (h : Fr (fun _ => False) a b) : Fr S a b := h.mono (fun _ _ e => e.elim)
theorem Fr.drew {S : Nat → Prop} {a b : World} (h : Fr S a b) : Fr S a b.drew := ⟨h.os, h.tape, h.output, h.size, h.block⟩
theorem Fr.drewN {S : Nat → Prop} {a b : World} (h : Fr S a b) (n : Nat) : Fr S a (b.drewN n) := ⟨h.os, h.tape, h.output, h.size, h.block⟩
theorem Fr.alloc {S : Nat → Prop} {a b : World} (h : Fr S a b) (o : Obj) : Fr S a (b.alloc o) :=
  h.trans ⟨rfl, rfl, rfl, by simp, fun k hk _ => Below.heap_alloc _ _ _ hk⟩
theorem Fr.setCell {S : Nat → Prop} {a b : World} (h : Fr S a b) {p : Addr} (hp : p.block < a.heap.size → S p.block) (u : Value) : Fr S a (b.setCell p u) :=
  h.then (T := fun k => k = p.block) ⟨rfl, rfl, rfl, by simp [World.setCell], fun k hk hs => Below.heap_setCell _ _ _ _ hs⟩ (fun i hi e => by subst e; exact hp hi)
theorem Fr.grown {S : Nat → Prop} {a b c : World} (h : Fr S a b) {row : Option Nat} (hg : b.grownBy c row) (hr : ∀ k, row = some k → k < a.heap.size → S k) : Fr S a c :=
  h.then (T := fun k => some k = row) ⟨hg.os, hg.tape, hg.output, hg.size, fun k hk hs => hg.block k hk hs⟩ (fun i hi e => hr i e.symm hi)
theorem Fr.below {S : Nat → Prop} {a b : World} (h : Fr S a b) {B : Nat} (hB : B ≤ a.heap.size) (hS : ∀ k, S k → B ≤ k) : Below B a b :=
  ⟨h.os, h.tape, h.output, h.size, fun k hk => h.block k (by omega) (fun hs => by have := hS k hs; omega)⟩
theorem Fr.of_below {B : Nat} {a b : World} (h : Below B a b) : Fr (fun k => B ≤ k) a b :=
  ⟨h.os, h.tape, h.output, h.size, fun k _ hs => h.block k (by omega)⟩
theorem Fr.cell {S : Nat → Prop} {a b : World} (h : Fr S a b) {k : Nat} (hk : k < a.heap.size) (hs : ¬ S k) (i : Nat) : b.cell? ⟨k, i, none⟩ = a.cell? ⟨k, i, none⟩ :=
  World.cell?_of_block (a := ⟨k, i, none⟩) (h.block k hk hs)

theorem row_cell {w : World} {g : Nat} {l : List Value} {t : TypeId} (h : w.heap[g]? = some (.cells l.toArray t (0, 0))) (i : Nat) : w.cell? ⟨g, i, none⟩ = l[i]? := by
  simp [World.cell?, h]
theorem row_free {w : World} {g : Nat} {cs : Array Value} {t : TypeId} (h : w.heap[g]? = some (.cells cs t (0, 0))) (i : Nat) : w.frozen? ⟨g, i, none⟩ = false := by
  simp [World.frozen?, h]
theorem row_lt {w : World} {g : Nat} {o : Obj} (h : w.heap[g]? = some o) : g < w.heap.size := (Array.getElem?_eq_some_iff.1 h).1

/-! ### Lists in memory, to be read -/
def Reads {α : Type} (K : Nat → Prop) (w : World) (sz : Nat) (enc : α → List Value) (v : Value) (xs : List α) : Prop :=
  ∃ a c, v = .slice a xs.length c ∧ xs.length ≤ c ∧ c ≤ 9223372036854775807 ∧ (0 < xs.length → ∃ b o, a = some ⟨b, o, none⟩ ∧ K b ∧ b < w.heap.size ∧ ∀ i (h : i < xs.length) j u, (enc xs[i])[j]? = some u → w.cell? ⟨b, o + i * sz + j, none⟩ = some u)
section
variable {α : Type} {K : Nat → Prop} {w : World} {sz : Nat} {enc : α → List Value} {v : Value} {xs : List α}
theorem Reads.fr {S : Nat → Prop} {w' : World} (h : Reads K w sz enc v xs) (hf : Fr S w w') (hK : ∀ k, K k → ¬ S k) : Reads K w' sz enc v xs := by
  obtain ⟨a, c, e, h1, h2, h3⟩ := h
  refine ⟨a, c, e, h1, h2, fun hp => ?_⟩
  obtain ⟨b, o, ea, hk, hb, hx⟩ := h3 hp
  exact ⟨b, o, ea, hk, Nat.lt_of_lt_of_le hb hf.size, fun i hi j u hu => (hf.cell hb (hK b hk) _).trans (hx i hi j u hu)⟩
theorem Reads.mono {K' : Nat → Prop} (h : Reads K w sz enc v xs) (hK : ∀ k, k < w.heap.size → K k → K' k) : Reads K' w sz enc v xs := by
  obtain ⟨a, c, e, h1, h2, h3⟩ := h
  refine ⟨a, c, e, h1, h2, fun hp => ?_⟩
  obtain ⟨b, o, ea, hk, hb, hx⟩ := h3 hp
  exact ⟨b, o, ea, hK b hb hk, hb, hx⟩
theorem Reads.nil : Reads K w sz enc (.slice none 0 0) ([] : List α) := ⟨none, 0, rfl, Nat.le_refl _, by omega, fun h => absurd h (by simp)⟩
end
def encI (x : Int) : List Value := [.int .i64 x]
def encR (x : Rp) : List Value := [.int .i64 x.cl, .int .i64 x.pub, .int .i64 x.fr]
def encF (x : Fc) : List Value := [.int .i64 x.thing, .int .i64 x.says, .int .i64 x.sf, .int .i64 x.st, .int .i64 x.kf, .int .i64 x.kt]
def encD (x : Fnd) : List Value := [.int .i64 x.says, .bool x.holds, .int .i64 x.fact, .int .i64 x.clause]
structure CM where
  x : Cl
  nv : Value
  bv : Value
  deriving Inhabited
def encC (m : CM) : List Value := [.int .i64 m.x.pub, .int .i64 m.x.fr, .int .i64 m.x.to, m.nv, m.bv, .int .i64 m.x.gives]
def I64 (x : Int) : Prop := -9223372036854775808 ≤ x ∧ x ≤ 9223372036854775807

/-! ### The smallest functions -/
set_option maxHeartbeats 800000 in
theorem isIn_any (n lo hi : Int) (w : World) : Calls Try.prog 42 #[.int .i64 n, .int .i64 lo, .int .i64 hi] w fun e w' => e = .returned (.bool (inB n lo hi)) ∧ w = w' := by
  by_cases h : lo ≤ n
  · by_cases h2 : n ≤ hi
    · go_enter Try.func42, Try.ntmps42
      go_wp2
      go_ret
      exact ⟨by simp [inB, h, h2], rfl⟩
    · go_enter Try.func42, Try.ntmps42
      go_wp2
      go_ret
      exact ⟨by simp [inB, h, h2], rfl⟩
  · go_enter Try.func42, Try.ntmps42
    go_wp2
    go_ret
    exact ⟨by simp [inB, h]; omega, rfl⟩
theorem isIn_b (n lo hi : Int) (w : World) (b : Bool) (hb : inB n lo hi = b) : Calls Try.prog 42 #[.int .i64 n, .int .i64 lo, .int .i64 hi] w fun e w' => e = .returned (.bool b) ∧ w = w' := by
  subst hb
  exact isIn_any n lo hi w
theorem isSecond_b (n : Int) (w : World) (b : Bool) (hb : secB n = b) : Calls Try.prog 40 #[.int .i64 n] w fun e w' => e = .returned (.bool b) ∧ w = w' := by
  go_enter Try.func40, Try.ntmps40
  go_wp2_with (go_at_call 42; refine (isIn_b _ _ _ _ b hb).mono ?_; rintro e w' ⟨rfl, rfl⟩)
  go_ret
  exact ⟨rfl, rfl⟩
set_option maxHeartbeats 1600000 in
theorem isSpell_b (f t : Int) (w : World) (b : Bool) (hb : spellB f t = b) (hf : I64 f) : Calls Try.prog 41 #[.agg #[.int .i64 f, .int .i64 t]] w fun e w' => e = .returned (.bool b) ∧ Fr (fun _ => False) w w' := by
  obtain ⟨hf1, hf2⟩ := hf
  cases h1 : secB f with
  | false =>
    have hb' : b = false := by rw [← hb, spellB, h1]; rfl
    subst hb'
    clear hb
    have H1 := hid h1
    clear h1
    go_enter Try.func41, Try.ntmps41
    go_wp2_with (go_at_call 40; refine (isSecond_b _ _ false H1.out).mono ?_; rintro e w' ⟨rfl, rfl⟩)
    go_ret
    exact ⟨rfl, (Fr.refl _ _).alloc _⟩
  | true =>
    have hb' : inB t (f + 1) 10000001 = b := by rw [← hb, spellB, h1]; rfl
    have hr : 0 ≤ f ∧ f ≤ 10000000 := by simpa [secB, inB] using h1
    obtain ⟨hr1, hr2⟩ := hr
    have H1 := hid h1
    have H2 := hid hb'
    clear h1 hb' hb
    go_enter Try.func41, Try.ntmps41
    go_wp2_with (first | (go_at_call 40; refine (isSecond_b _ _ true H1.out).mono ?_; rintro e w' ⟨rfl, rfl⟩) | (go_at_call 42; refine (isIn_b _ _ _ _ b H2.out).mono ?_; rintro e w' ⟨rfl, rfl⟩))
    go_ret
    exact ⟨rfl, (Fr.refl _ _).alloc _⟩
set_option maxHeartbeats 800000 in
theorem has_b (f t s : Int) (w : World) (b : Bool) (hb : hasB f t s = b) (ht : -9223372036854775807 ≤ t ∧ t ≤ 9223372036854775807) : Calls Try.prog 52 #[.agg #[.int .i64 f, .int .i64 t], .int .i64 s] w fun e w' => e = .returned (.bool b) ∧ Fr (fun _ => False) w w' := by
  obtain ⟨ht1, ht2⟩ := ht
  have HB := hid hb
  clear hb
  go_enter Try.func52, Try.ntmps52
  go_wp2_with (go_at_call 42; refine (isIn_b _ _ _ _ b HB.out).mono ?_; rintro e w' ⟨rfl, rfl⟩)
  go_ret
  exact ⟨rfl, (Fr.refl _ _).alloc _⟩
end Go.Proofs.Ytfalhljidnpmgaa
