/- Clone and Delete at findings. No condition beside the sizes. -/
import Derived.Test.YtfalhljidnpmgaaB9
set_option linter.unusedVariables false
set_option linter.unusedSimpArgs false
namespace Go.Proofs.Ytfalhljidnpmgaa
open Go.RowKit Go.Proofs.Statute Go.Maps

def dcells (l : List Fnd) : List Value := l.flatMap encD
theorem dcells_length (l : List Fnd) : (dcells l).length = l.length * 4 := by
  induction l with
  | nil => rfl
  | cons x l ih => simp only [dcells, List.flatMap_cons, List.length_append] at ih ⊢; rw [ih]; simp [encD]; omega
theorem info63 : (Try.prog.info? 63).map (fun i => (i.zero, i.size, i.bytes)) = some (some dzero, 4, 32) := by kernel_rfl
theorem dcells_append (a b : List Fnd) : dcells (a ++ b) = dcells a ++ dcells b := by simp [dcells]
theorem dcells_one (l : List Fnd) : ∀ u ∈ dcells l, u.oneCell' = true := by
  intro u hu
  simp only [dcells, List.mem_flatMap] at hu
  obtain ⟨x, _, hx⟩ := hu
  simp [encD] at hx
  rcases hx with rfl | rfl | rfl | rfl <;> rfl
theorem dcells_get (l : List Fnd) (i : Nat) (hi : i < l.length) (j : Nat) (hj : j < 4) : (dcells l)[i * 4 + j]? = (encD l[i])[j]? := flat_get (sz := 4) (fun _ => rfl) l i hi j hj
/-- append([]Finding{}, l...) -/
theorem append_finds {w : World} {base : Nat} {v : Value} {xs ys : List Fnd} {lv : Value} {K : Nat → Prop} (h : w.ownsRow base 63 4 v xs.length (dcells xs)) (hb : base ≤ w.heap.size) (hr : Reads K w 4 encD lv ys) (hl : xs.length + ys.length ≤ 100000) (hpos : 0 < ys.length)
    {ops : Array Oper} {rest : List Oper} {o : Oper} {a : Act} {Q : Exit → Act → World → Prop} (hgd : o.guard = none) (s y : Operand) (ho : o.op = .call { callee := .builtin .append, args := #[s, y], argTypes := #[28, 28] })
    (hs : a.eval s = v) (hy : a.eval y = lv)
    (hh : ∀ g c w', w'.ownsRow base 63 4 (.slice (some ⟨g, 0, none⟩) (xs.length + ys.length) c) (xs.length + ys.length) (dcells (xs ++ ys)) → Fr (fun k => v.ownBlock = some k) w w' → (v.ownBlock = some g ∨ g = w.heap.size) → wpList Try.prog ops Q rest (a.put o.dst (.slice (some ⟨g, 0, none⟩) (xs.length + ys.length) c)) w') :
    wpList Try.prog ops Q (o :: rest) a w := by
  obtain ⟨i0, hi0, hz0, hz1, hz2⟩ := info_parts info63
  obtain ⟨al, cc, rfl, _, _, h3⟩ := hr
  obtain ⟨b3, o3, rfl, _, hbl, hx⟩ := h3 hpos
  refine wpList_append_lies _ hgd s y 28 ho base 63 i0 dzero 4 32 Try.underlying28 hi0 hz0 hz1 hz2 rfl (by decide) v xs.length (dcells xs) hs h ⟨b3, o3, none⟩ ys.length cc (dcells ys) hy (dcells_length ys) ?_ (dcells_one ys) hpos (by unfold maxLen; omega) (by omega) hb w.heap.size rfl ?_
  · intro j u hu
    have hj : j < ys.length * 4 := by
      have := (List.getElem?_eq_some_iff.1 hu).1
      rwa [dcells_length] at this
    have e : (⟨b3, o3, none⟩ : Addr).add j = ⟨b3, o3 + j, none⟩ := by unfold Addr.add; split <;> simp_all
    have hdiv : j / 4 < ys.length := by omega
    have hj2 : j / 4 * 4 + j % 4 = j := by omega
    rw [e, ← hj2, ← Nat.add_assoc]
    refine hx (j / 4) hdiv (j % 4) u ?_
    rw [← dcells_get ys (j / 4) hdiv (j % 4) (by omega), hj2]
    exact hu
  · intro g c w' h1 h2 h3 _
    refine hh g c w' ?_ ((Fr.refl _ _).grown h2 (fun k hk _ => hk)) h3
    rw [dcells_append]
    exact h1
theorem not_nil (w : World) (a : Addr) (n c : Nat) : (binOp .eql 28 (.slice (some a) n c) (.slice none 0 0)).run Try.prog w = .ok (.bool false) w := by
  have h : ∀ d : Nat, (Op.equalIn (d + 1) 28 (.slice (some a) n c) (.slice none 0 0)).run Try.prog w = .ok false w := fun d => by
    simp [Op.equalIn, run_underlying Try.underlying28]
  simp only [binOp]
  simp [Op.equal, Op.maxDepth, h 9999]
def Cloned (w : World) (l : List Fnd) (e : Ending) (w' : World) : Prop :=
  ∃ g c, e = .returned (.slice (some ⟨g, 0, none⟩) l.length c) ∧ w'.ownsRow w.heap.size 63 4 (.slice (some ⟨g, 0, none⟩) l.length c) l.length (dcells l) ∧ Fr (fun _ => False) w w'
set_option maxRecDepth 100000 in
set_option maxHeartbeats 1600000 in
theorem clone_any {K : Nat → Prop} {w : World} {a : Addr} {n c : Nat} {l : List Fnd} (hr : Reads K w 4 encD (.slice (some a) n c) l) (hpos : 0 < l.length) (hl : l.length ≤ 100000) :
    Calls Try.prog 33 #[.slice (some a) n c] w (Cloned w l) := by
  have HO : Hid ((w.alloc (.cells #[] 63)).ownsRow w.heap.size 63 4 (.slice (some ⟨w.heap.size, 0, none⟩) 0 0) 0 []) := hid (World.ownsRow_lit w #[] 0 (Nat.le_refl _) (by unfold maxLen; omega) rfl)
  have HR := hid (hr.fr ((Fr.refl (fun _ => False) w).alloc (.cells #[] 63)) (fun _ _ e => e))
  clear hr
  have HZ : Hid (([] : List Fnd).length + l.length = l.length) := hid (by simp)
  have hcmp := not_nil w a n c
  go_enter Try.func33, Try.ntmps33
  go_wp2_with (refine append_finds (xs := []) HO.out (by simp) HR.out (by simp; omega) hpos rfl (.tmp 5) (.tmp 6) rfl (by rfl) (by rfl) ?_; intro g c2 w1 h1 f1 _; rw [HZ.out] at h1 ⊢; rw [List.nil_append] at h1; have H1 := hid h1; have F1 := hid f1; clear h1 f1)
  go_ret
  exact ⟨g, c2, rfl, H1.out, ((Fr.refl _ _).alloc _).then F1.out (fun i hi e => by simp [Value.ownBlock] at e; omega)⟩
end Go.Proofs.Ytfalhljidnpmgaa
