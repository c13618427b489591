/- The rules that integers determine, in plain words: that they are valid. No condition. -/
import Derived.Test.YtfalhljidnpmgaaC5
import Derived.Test.YtfalhljidnpmgaaP4
set_option linter.unusedVariables false
set_option linter.unusedSimpArgs false
namespace Go.Proofs.Ytfalhljidnpmgaa
open Go.RowKit Go.Proofs.Statute Go.Maps

structure A6 where
  a : Int
  b : Int
  c : Int
  d : Int
  e : Int
  f : Int
  deriving Inhabited
structure A3 where
  a : Int
  b : Int
  c : Int
  deriving Inhabited
structure Nums where
  cs : List A6
  rs : List A3
  fs : List A6
def bitsOf (c : Int) (g : Int) : List Int := bitsAt (pickF c 4096).toNat g.toNat
def madeCl (y : A6) : Cl := ⟨pickF y.a 80, pickF y.b 50, partTo y.b y.c, bitsOf y.e (pickF y.d 8), bitsOf y.f (pickF y.d 8), pickF y.d 8⟩
def madeRp (n : Int) (y : A3) : Rp := ⟨pickF y.a n, pickF y.b 100, pickF y.c 100⟩
def madeFc (y : A6) : Fc := ⟨pickF y.a 3, pickF y.b 6, pickF y.c 50, partTo y.c y.d, pickF y.e 50, partTo y.e y.f⟩
def madeC (x : Nums) : List Cl := (x.cs.take 8).map madeCl
def made (x : Nums) : Rb := ⟨madeC x, if (madeC x).length = 0 then [] else (x.rs.take 3).map (madeRp (madeC x).length), (x.fs.take 8).map madeFc⟩

theorem bitsAt_lt (x : Nat) : ∀ k, ∀ m ∈ bitsAt x k, m < (k : Int)
  | 0, m, h => by simp [bitsAt] at h
  | k + 1, m, h => by
    unfold bitsAt at h
    split at h
    · rcases List.mem_append.1 h with h | h
      · have := bitsAt_lt x k m h
        omega
      · simp at h
        omega
    · have := bitsAt_lt x k m h
      omega
theorem ascB_snoc : ∀ (l : List Int) (last below : Int) (x : Int), ascB last l below = true → (∀ m ∈ l, m < x) → last < x → x < below → ascB last (l ++ [x]) below = true
  | [], last, below, x, _, _, h2, h3 => by simp [ascB, inB]; omega
  | y :: l, last, below, x, h, h1, _, h3 => by
    simp only [ascB, List.cons_append, Bool.and_eq_true] at h ⊢
    exact ⟨h.1, ascB_snoc l y below x h.2 (fun m hm => h1 m (by simp [hm])) (h1 y (by simp)) h3⟩
theorem ascB_more : ∀ (l : List Int) (last below below' : Int), below ≤ below' → ascB last l below = true → ascB last l below' = true
  | [], _, _, _, _, _ => rfl
  | y :: l, last, below, below', hb, h => by
    simp only [ascB, inB, Bool.and_eq_true, decide_eq_true_eq] at h ⊢
    exact ⟨by omega, ascB_more l y below below' hb h.2⟩
theorem bitsAt_asc (x : Nat) : ∀ k : Nat, ascB (-1) (bitsAt x k) k = true
  | 0 => rfl
  | k + 1 => by
    have ih := ascB_more _ _ _ ((k + 1 : Nat) : Int) (by omega) (bitsAt_asc x k)
    unfold bitsAt
    split
    · exact ascB_snoc _ _ _ _ ih (bitsAt_lt x k) (by omega) (by omega)
    · exact ih
theorem bitsOf_ok (c g : Int) (h : 0 ≤ g) : ascends (bitsOf c g) g = true ∧ (bitsOf c g).length ≤ 3 := by
  have h1 := bitsAt_le (pickF c 4096).toNat g.toNat
  have h2 := bitsAt_asc (pickF c 4096).toNat g.toNat
  rw [Int.toNat_of_nonneg h] at h2
  refine ⟨?_, h1⟩
  unfold ascends bitsOf
  simp only [Bool.and_eq_true, decide_eq_true_eq]
  exact ⟨by omega, h2⟩
theorem partTo_in (a b : Int) : pickF a 50 + 1 ≤ partTo a b ∧ partTo a b ≤ 99 := by
  have h1 := pickF_in a 50 (by omega)
  have h2 := pickF_in b 50 (by omega)
  unfold partTo
  omega
theorem madeCl_ok (y : A6) : clB (madeCl y) = true ∧ (madeCl y).needs.length ≤ 3 ∧ (madeCl y).bars.length ≤ 3 := by
  have h1 := pickF_in y.a 80 (by omega)
  have h2 := pickF_in y.b 50 (by omega)
  have h3 := partTo_in y.b y.c
  have h4 := pickF_in y.d 8 (by omega)
  have h5 := bitsOf_ok y.e (pickF y.d 8) h4.1
  have h6 := bitsOf_ok y.f (pickF y.d 8) h4.1
  refine ⟨?_, h5.2, h6.2⟩
  unfold madeCl clB
  dsimp only
  rw [h5.1, h6.1]
  generalize pickF y.a 80 = x1 at *
  generalize partTo y.b y.c = x3 at *
  generalize pickF y.b 50 = x2 at *
  generalize pickF y.d 8 = x4 at *
  rw [Bool.and_true, Bool.and_true]
  simp only [secB, spellB, inB, Bool.and_eq_true, decide_eq_true_eq]
  omega
theorem madeFc_ok (y : A6) : fcB (madeFc y) = true := by
  have h1 := pickF_in y.a 3 (by omega)
  have h2 := pickF_in y.b 6 (by omega)
  have h3 := pickF_in y.c 50 (by omega)
  have h4 := partTo_in y.c y.d
  have h5 := pickF_in y.e 50 (by omega)
  have h6 := partTo_in y.e y.f
  unfold madeFc fcB
  dsimp only
  generalize partTo y.c y.d = x4 at *
  generalize partTo y.e y.f = x6 at *
  generalize pickF y.a 3 = x1 at *
  generalize pickF y.b 6 = x2 at *
  generalize pickF y.c 50 = x3 at *
  generalize pickF y.e 50 = x5 at *
  simp only [secB, spellB, inB, Bool.and_eq_true, decide_eq_true_eq]
  omega
theorem madeC_len (x : Nums) : (madeC x).length ≤ 8 := by simp [madeC]; omega
theorem made_lens (x : Nums) : (made x).cls.length ≤ 8 ∧ (made x).rps.length ≤ 3 ∧ (made x).fcs.length ≤ 8 := by
  refine ⟨madeC_len x, ?_, by simp [made]; omega⟩
  unfold made
  dsimp only
  split
  · simp
  · simp; omega
theorem made_cl (x : Nums) : ∀ y ∈ (made x).cls, clB y = true ∧ y.needs.length ≤ 3 ∧ y.bars.length ≤ 3 := by
  intro y hy
  obtain ⟨z, _, rfl⟩ := List.mem_map.1 hy
  exact madeCl_ok z
theorem made_rp (x : Nums) : ∀ y ∈ (made x).rps, 0 ≤ y.cl ∧ y.cl < (made x).cls.length ∧ 0 ≤ y.pub ∧ y.pub < 100 ∧ 0 ≤ y.fr ∧ y.fr < 100 := by
  intro y hy
  have hy' : y ∈ (if (madeC x).length = 0 then [] else (x.rs.take 3).map (madeRp (madeC x).length)) := hy
  show 0 ≤ y.cl ∧ y.cl < (madeC x).length ∧ _
  split at hy'
  · simp at hy'
  · obtain ⟨z, _, rfl⟩ := List.mem_map.1 hy'
    have h1 := pickF_in z.a (madeC x).length (by omega)
    have h2 := pickF_in z.b 100 (by omega)
    have h3 := pickF_in z.c 100 (by omega)
    exact ⟨h1.1, h1.2, h2.1, h2.2, h3.1, h3.2⟩
theorem made_fc (x : Nums) : ∀ y ∈ (made x).fcs, fcB y = true := by
  intro y hy
  obtain ⟨z, _, rfl⟩ := List.mem_map.1 hy
  exact madeFc_ok z
theorem valid_mk {c : Rb} (l1 : c.cls.length ≤ 20) (l2 : c.rps.length ≤ 10) (l3 : c.fcs.length ≤ 20) (h1 : ∀ y ∈ c.cls, clB y = true) (h2 : ∀ y ∈ c.rps, 0 ≤ y.cl ∧ y.cl < c.cls.length ∧ 0 ≤ y.pub ∧ y.pub ≤ 10000000 ∧ 0 ≤ y.fr ∧ y.fr ≤ 10000000) (h3 : ∀ y ∈ c.fcs, fcB y = true) : validB c = true := by
  simp only [validB, Bool.and_eq_true, List.all_eq_true, decide_eq_true_eq]
  refine ⟨⟨⟨⟨⟨l1, l2⟩, l3⟩, h1⟩, fun y hy => ?_⟩, h3⟩
  have := h2 y hy
  simp only [rpB, secB, inB, Bool.and_eq_true, decide_eq_true_eq]
  omega
theorem made_valid (x : Nums) : validB (made x) = true := by
  have hl := made_lens x
  exact valid_mk (by omega) (by omega) (by omega) (fun y hy => (made_cl x y hy).1) (fun y hy => by have := made_rp x y hy; omega) (made_fc x)
end Go.Proofs.Ytfalhljidnpmgaa
