/- Rules with dates, in plain words: what is valid, what applies, what is so, what proves an answer. No condition. -/
set_option linter.unusedVariables false
set_option linter.unusedSimpArgs false
namespace Go.Proofs.Statute

structure Cl where
  pub : Int
  fr : Int
  to : Int
  needs : List Int
  bars : List Int
  gives : Int
  deriving Inhabited
structure Rp where
  cl : Int
  pub : Int
  fr : Int
  deriving Inhabited
structure Fc where
  thing : Int
  says : Int
  sf : Int
  st : Int
  kf : Int
  kt : Int
  deriving Inhabited
structure Rb where
  cls : List Cl
  rps : List Rp
  fcs : List Fc
structure Qn where
  thing : Int
  says : Int
  sec : Int
  known : Int
structure Fnd where
  says : Int
  holds : Bool
  fact : Int
  clause : Int
  deriving DecidableEq, Inhabited

def inB (n lo hi : Int) : Bool := decide (lo ≤ n) && decide (n ≤ hi)
def secB (n : Int) : Bool := inB n 0 10000000
def spellB (f t : Int) : Bool := secB f && inB t (f + 1) 10000001
def hasB (f t s : Int) : Bool := inB s f (t - 1)
def ascB : Int → List Int → Int → Bool
  | _, [], _ => true
  | last, x :: l, below => inB x (last + 1) (below - 1) && ascB x l below
def ascends (l : List Int) (below : Int) : Bool := decide (l.length ≤ 4) && ascB (-1) l below
def clB (x : Cl) : Bool := secB x.pub && spellB x.fr x.to && inB x.gives 0 19 && ascends x.needs x.gives && ascends x.bars x.gives
def rpB (m : Nat) (x : Rp) : Bool := inB x.cl 0 ((m : Int) - 1) && secB x.pub && secB x.fr
def fcB (x : Fc) : Bool := inB x.thing 0 99999999 && inB x.says 0 19 && spellB x.sf x.st && spellB x.kf x.kt
def validB (c : Rb) : Bool := decide (c.cls.length ≤ 20) && decide (c.rps.length ≤ 10) && decide (c.fcs.length ≤ 20) && c.cls.all clB && c.rps.all (rpB c.cls.length) && c.fcs.all fcB
def asksB (q : Qn) : Bool := inB q.thing 0 99999999 && inB q.says 0 19 && secB q.sec && secB q.known
def statesB (q : Qn) (x : Fc) : Bool := x.thing == q.thing && hasB x.sf x.st q.sec && hasB x.kf x.kt q.known
def clAt (c : Rb) (i : Nat) : Cl := c.cls[i]?.getD default
def fcAt (c : Rb) (i : Nat) : Fc := c.fcs[i]?.getD default
def rulesB (c : Rb) (q : Qn) (i : Nat) : Bool := decide ((clAt c i).pub ≤ q.known) && hasB (clAt c i).fr (clAt c i).to q.sec && !c.rps.any fun r => r.cl == (i : Int) && decide (r.pub ≤ q.known) && decide (r.fr ≤ q.sec)
def factsOf (c : Rb) (q : Qn) : List Nat := (List.range c.fcs.length).filter fun i => statesB q (fcAt c i)
def clausesOf (c : Rb) (q : Qn) : List Nat := (List.range c.cls.length).filter fun i => rulesB c q i

/-- The rules at a question: the rules, the facts and the clauses that apply. -/
structure Jd where
  c : Rb
  F : List Nat
  G : List Nat
def jdOf (c : Rb) (q : Qn) : Jd := ⟨c, factsOf c q, clausesOf c q⟩
def Jd.gives (j : Jd) (t : Int → Bool) (n : Int) (i : Nat) : Bool := (clAt j.c i).gives == n && (clAt j.c i).needs.all t && !(clAt j.c i).bars.any t
def Jd.find (j : Jd) (t : Int → Bool) (n : Int) : Fnd :=
  match j.F.find? fun i => (fcAt j.c i).says == n with
  | some i => ⟨n, true, i, -1⟩
  | none => match j.G.find? (j.gives t n) with
    | some i => ⟨n, true, -1, i⟩
    | none => ⟨n, false, -1, -1⟩
def Jd.tr (j : Jd) : Nat → Int → Bool
  | 0, _ => false
  | k + 1, n => (j.find (j.tr k) n).holds
def Jd.truth (j : Jd) (n : Int) : Bool := j.tr 20 n
def Jd.fd (j : Jd) (n : Int) : Fnd := j.find j.truth n

def finds (l : List Fnd) (n : Int) (h : Bool) : Bool := l.any fun y => y.says == n && y.holds == h
def barred (l : List Fnd) (x : Cl) : Bool := x.needs.any (fun n => finds l n false) || x.bars.any fun n => finds l n true
def hasN (l : List Nat) (z : Int) : Bool := l.any fun i => (i : Int) == z
def Jd.right (j : Jd) (l : List Fnd) (x : Fnd) : Bool :=
  if x.holds && x.clause == -1 then hasN j.F x.fact && (fcAt j.c x.fact.toNat).says == x.says
  else if x.holds then x.fact == -1 && hasN j.G x.clause && (clAt j.c x.clause.toNat).gives == x.says && (clAt j.c x.clause.toNat).needs.all (fun n => finds l n true) && (clAt j.c x.clause.toNat).bars.all (fun n => finds l n false)
  else (x.fact == -1 && x.clause == -1) && !j.F.any (fun i => (fcAt j.c i).says == x.says) && !j.G.any fun i => (clAt j.c i).gives == x.says && !barred l (clAt j.c i)
def ascF : Int → List Fnd → Bool
  | _, [] => true
  | last, x :: l => inB x.says (last + 1) 19 && ascF x.says l
def lastSays : List Fnd → Int × Bool
  | [] => (-1, false)
  | [x] => (x.says, x.holds)
  | _ :: y :: l => lastSays (y :: l)
def Jd.proves (j : Jd) (n : Int) (h : Bool) (l : List Fnd) : Bool := ascF (-1) l && l.all (j.right l) && decide (l ≠ []) && (lastSays l).1 == n && (lastSays l).2 == h
def greedy (P : List Fnd → Bool) : Nat → List Fnd → List Fnd
  | 0, l => l
  | k + 1, l => greedy P k (if P (l.eraseIdx k) then l.eraseIdx k else l)
def Jd.all (j : Jd) (n : Int) : List Fnd := (List.range (n.toNat + 1)).map fun k : Nat => j.fd k
def Jd.proof (j : Jd) (n : Int) : List Fnd := greedy (j.proves n (j.truth n)) n.toNat (j.all n)

/-! ### What is so -/
structure Jd.Ok (j : Jd) : Prop where
  less : ∀ i ∈ j.G, 0 ≤ (clAt j.c i).gives ∧ (∀ m ∈ (clAt j.c i).needs, 0 ≤ m ∧ m < (clAt j.c i).gives) ∧ ∀ m ∈ (clAt j.c i).bars, 0 ≤ m ∧ m < (clAt j.c i).gives
  top : ∀ i ∈ j.G, (clAt j.c i).gives ≤ 19

theorem ascB_in : ∀ (l : List Int) (last below : Int), -1 ≤ last → ascB last l below = true → ∀ m ∈ l, 0 ≤ m ∧ m < below
  | [], _, _, _, _, m, hm => by simp at hm
  | x :: l, last, below, h0, h, m, hm => by
    simp only [ascB, inB, Bool.and_eq_true, decide_eq_true_eq] at h
    rcases List.mem_cons.1 hm with rfl | hm
    · omega
    · exact ascB_in l x below (by omega) h.2 m hm
theorem clAt_mem {c : Rb} {i : Nat} (h : i < c.cls.length) : clAt c i ∈ c.cls := by
  unfold clAt
  rw [List.getElem?_eq_getElem h]
  exact List.getElem_mem h
theorem jd_ok {c : Rb} {q : Qn} (hv : validB c = true) : (jdOf c q).Ok := by
  simp only [validB, Bool.and_eq_true, List.all_eq_true] at hv
  have key : ∀ i ∈ clausesOf c q, clB (clAt c i) = true := fun i hi => by
    simp only [clausesOf, List.mem_filter, List.mem_range] at hi
    exact hv.1.1.2 _ (clAt_mem hi.1)
  refine ⟨fun i hi => ?_, fun i hi => ?_⟩
  · have := key i hi
    simp only [clB, ascends, inB, Bool.and_eq_true, decide_eq_true_eq] at this
    exact ⟨this.1.1.2.1, ascB_in _ _ _ (by omega) this.1.2.2, ascB_in _ _ _ (by omega) this.2.2⟩
  · have := key i hi
    simp only [clB, ascends, inB, Bool.and_eq_true, decide_eq_true_eq] at this
    exact this.1.1.2.2

theorem find_congr {j : Jd} (hj : j.Ok) {t t' : Int → Bool} {n : Int} (h : ∀ m, 0 ≤ m → m < n → t m = t' m) : j.find t n = j.find t' n := by
  have e : j.G.find? (j.gives t n) = j.G.find? (j.gives t' n) := by
    have key : ∀ i ∈ j.G, j.gives t n i = j.gives t' n i := fun i hi => by
      unfold Jd.gives
      by_cases hg : (clAt j.c i).gives = n
      · have h2 := hj.less i hi
        have e1 : (clAt j.c i).needs.all t = (clAt j.c i).needs.all t' := by
          rw [Bool.eq_iff_iff, List.all_eq_true, List.all_eq_true]
          exact ⟨fun k m hm => by rw [← h m (h2.2.1 m hm).1 (by rw [← hg]; exact (h2.2.1 m hm).2)]; exact k m hm, fun k m hm => by rw [h m (h2.2.1 m hm).1 (by rw [← hg]; exact (h2.2.1 m hm).2)]; exact k m hm⟩
        have e2 : (clAt j.c i).bars.any t = (clAt j.c i).bars.any t' := by
          rw [Bool.eq_iff_iff, List.any_eq_true, List.any_eq_true]
          exact ⟨fun ⟨m, hm, k⟩ => ⟨m, hm, by rw [← h m (h2.2.2 m hm).1 (by rw [← hg]; exact (h2.2.2 m hm).2)]; exact k⟩, fun ⟨m, hm, k⟩ => ⟨m, hm, by rw [h m (h2.2.2 m hm).1 (by rw [← hg]; exact (h2.2.2 m hm).2)]; exact k⟩⟩
        rw [e1, e2]
      · have : ((clAt j.c i).gives == n) = false := by simpa using hg
        rw [this]
        rfl
    generalize j.G = G at key
    induction G with
    | nil => rfl
    | cons a G ih =>
      rw [List.find?_cons, List.find?_cons, key a (by simp), ih (fun i hi => key i (by simp [hi]))]
  unfold Jd.find
  rw [e]
theorem tr_same {j : Jd} (hj : j.Ok) : ∀ (k k' : Nat) (n : Int), 0 ≤ n → n < k → n < k' → j.tr k n = j.tr k' n
  | 0, _, n, _, _, _ => by omega
  | _ + 1, 0, n, _, _, _ => by omega
  | k + 1, k' + 1, n, _, h, h' => by
    show (j.find (j.tr k) n).holds = (j.find (j.tr k') n).holds
    rw [find_congr hj (t := j.tr k) (t' := j.tr k') (fun m h0 hm => tr_same hj k k' m h0 (by omega) (by omega))]
theorem truth_fix {j : Jd} (hj : j.Ok) {n : Int} (h0 : 0 ≤ n) (h1 : n ≤ 19) : j.truth n = (j.fd n).holds := by
  show (j.find (j.tr 19) n).holds = (j.find (j.tr 20) n).holds
  rw [find_congr hj (t := j.tr 19) (t' := j.tr 20) (fun m k0 hm => tr_same hj 19 20 m k0 (by omega) (by omega))]
end Go.Proofs.Statute
