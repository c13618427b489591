/- Delete of one finding out of a row of one's own. No condition beside the sizes. -/
import Derived.Test.YtfalhljidnpmgaaC0
import Derived.Deep.DeepAppendRoom
set_option linter.unusedVariables false
set_option linter.unusedSimpArgs false
namespace Go.Proofs.Ytfalhljidnpmgaa
open Go.RowKit Go.Proofs.Statute Go.Maps

theorem list_of {P : Program} {ops : Array Oper} {rest : List Oper} {o : Oper} {a : Act} {w : World} {Q : Exit → Act → World → Prop} (hgd : o.guard = none) (h : o.wp P a w (wpList P ops Q rest) Q) :
    wpList P ops Q (o :: rest) a w := by
  unfold wpList
  rw [if_pos (by simp [Region.wanted, hgd])]
  exact .inl h
def z4 : List Value := [.int .i64 0, .bool false, .int .i64 0, .int .i64 0]
theorem hzl : (Builtin.zeroCells dzero.cells 1).toList = z4 := by kernel_rfl
/-- clear(s[m:m+1]) behind the end of a row of one's own. -/
theorem wp_clear_tail {w : World} {o : Oper} {a : Act} {K : Act → World → Prop} {Q : Exit → Act → World → Prop} (s : Operand)
    (ho : o.op = .call { callee := .builtin .clear, args := #[s], argTypes := #[28] }) {base g m cap c q : Nat} {xs : List Value} (hv : a.eval s = .slice (some ⟨g, m * 4, none⟩) q c) (hq : q = 1)
    (hown : w.ownsRow base 63 4 (.slice (some ⟨g, 0, none⟩) m cap) m xs) (hc : m + 1 ≤ cap)
    (h : ∀ w', w'.ownsRow base 63 4 (.slice (some ⟨g, 0, none⟩) m cap) m xs → Fr (fun k => k = g) w w' → K (a.put o.dst (.tuple #[])) w') :
    o.wp Try.prog a w K Q := by
  subst hq
  obtain ⟨hl, hr⟩ := hown
  rcases hr with ⟨h0, _⟩ | ⟨g', cap', cur, hvv, hb, hg, hnc, hcm, hcs, htake⟩
  · simp at h0
  · injection hvv with h1 h2 h3
    injection h1 with h1
    injection h1 with h1 _ _
    subst h1 h3
    have hfit : m * 4 + 4 ≤ cur.size := by rw [hcs]; omega
    have hst := run_storeCells_at Try.prog g (m * 4) 63 z4 0 cur w hg (by simpa [z4] using hfit) (by intro u hu; simp [z4] at hu; rcases hu with rfl | rfl | rfl | rfl <;> rfl)
    have hrun : (Builtin.clear_ #[28] o.type #[.slice (some ⟨g, m * 4, none⟩) 1 c]).run Try.prog w = .ok (.tuple #[]) (w.setRow g (cur.toList.take (m * 4) ++ z4 ++ cur.toList.drop (m * 4 + 4)).toArray) := by
      simp only [Nat.add_zero] at hst
      have hz' : (Builtin.zeroCells (Value.agg #[.int .i64 0, .bool false, .int .i64 0, .int .i64 0]).cells 1).toList = z4 := hzl
      simp only [Builtin.clear_, List.getElem?_toArray, List.getElem?_cons_zero, Sem.run_bind, run_underlying Try.underlying28, Result.andThen_ok, zero63, dzero, hz', hst]
      rfl
    unfold Oper.wp
    simp [execOp, ho, resolve, invoke, builtin, hv, hrun, Result.andThen]
    refine h _ ⟨hl, .inr ⟨g, cap, _, rfl, hb, setRow_heap w g cur _ 63 _ hg, hnc, hcm, ?_, ?_⟩⟩ ⟨rfl, rfl, rfl, by simp [World.setRow], fun k _ hk => setRow_other w g k _ hk⟩
    · simp only [List.size_toArray, List.length_append, List.length_take, List.length_drop, Array.length_toList, z4, List.length_cons, List.length_nil]
      omega
    · rw [← htake]
      simp only [List.append_assoc]
      rw [List.take_left' (by rw [List.length_take, Array.length_toList]; omega)]
theorem dcells_take (l : List Fnd) (k : Nat) : (dcells l).take (k * 4) = dcells (l.take k) := by
  induction l generalizing k with
  | nil => simp [dcells]
  | cons x l ih =>
    cases k with
    | zero => simp [dcells]
    | succ k =>
      have := ih k
      simp only [dcells, List.flatMap_cons, List.take_succ_cons] at this ⊢
      rw [← this, Nat.succ_mul]
      show (encD x ++ _).take (k * 4 + (encD x).length) = _
      rw [Nat.add_comm, List.take_append, List.take_of_length_le (by omega)]
      congr 2
      omega
theorem erase_split (l : List Fnd) (k : Nat) : l.eraseIdx k = l.take k ++ l.drop (k + 1) := List.eraseIdx_eq_take_drop_succ l k
set_option maxRecDepth 100000 in
set_option maxHeartbeats 3200000 in
theorem delete_any {w : World} {base g n cap : Nat} {l : List Fnd} (h : w.ownsRow base 63 4 (.slice (some ⟨g, 0, none⟩) n cap) n (dcells l)) (hn : n = l.length) (hl : n ≤ 100000) (k : Nat) (hk : k + 1 < n) :
    Calls Try.prog 32 #[.slice (some ⟨g, 0, none⟩) n cap, .int .i64 k, .int .i64 ((k : Int) + 1)] w fun e w' => e = .returned (.slice (some ⟨g, 0, none⟩) (n - 1) cap) ∧ w'.ownsRow base 63 4 (.slice (some ⟨g, 0, none⟩) (n - 1) cap) (n - 1) (dcells (l.eraseIdx k)) ∧ Fr (fun k => k = g) w w' := by
  obtain ⟨i0, hi0, hz0, hz1, hz2⟩ := info_parts info63
  obtain ⟨_, hnc, hcm⟩ : True ∧ n ≤ cap ∧ cap ≤ 9223372036854775807 := by
    rcases h.2 with ⟨h0, _⟩ | ⟨g', cap', cur, hv, _, _, h1, h2, _⟩
    · simp at h0
    · injection hv with _ _ hc
      unfold maxLen at h2
      exact ⟨trivial, by omega, by omega⟩
  have HO1 : Hid (w.drew.ownsRow base 63 4 (.slice (some ⟨g, 0, none⟩) k cap) k (dcells (l.take k))) := hid (by
    refine ⟨by rw [dcells_length, List.length_take]; omega, ?_⟩
    rcases h.2 with ⟨h0, _⟩ | ⟨g', cap', cur, hv, hb, hg, h1, h2, h3, h4⟩
    · simp at h0
    · injection hv with e1 _ hc
      injection e1 with e1
      injection e1 with e1 _ _
      subst e1 hc
      refine .inr ⟨g, cap, cur, rfl, hb, hg, by omega, h2, h3, ?_⟩
      rw [← dcells_take, ← h4, List.take_take]
      congr 1
      omega)
  have HNW : Hid (∀ j u, (dcells (l.drop (k + 1)))[j]? = some u → w.drew.cell? ((⟨g, (k + 1) * 4, none⟩ : Addr).add j) = some u) := hid (fun j u hu => by
    have hj : j < (l.length - (k + 1)) * 4 := by
      have := (List.getElem?_eq_some_iff.1 hu).1
      rwa [dcells_length, List.length_drop] at this
    have e : (⟨g, (k + 1) * 4, none⟩ : Addr).add j = ⟨g, (k + 1) * 4 + j, none⟩ := by unfold Addr.add; split <;> simp_all
    rw [e]
    show w.cell? ⟨g, (k + 1) * 4 + j, none⟩ = some u
    rw [h.cellAt _ (by omega), ← hu]
    have hd : dcells l = dcells (l.take (k + 1)) ++ dcells (l.drop (k + 1)) := by rw [← dcells_append, List.take_append_drop]
    have hlt : (dcells (l.take (k + 1))).length = (k + 1) * 4 := by rw [dcells_length, List.length_take]; congr 1; omega
    rw [hd, List.getElem?_append_right (by omega), hlt]
    congr 1
    omega)
  have HL2 : Hid ((dcells (l.drop (k + 1))).length = (n - (k + 1)) * 4) := hid (by rw [dcells_length, List.length_drop, hn])
  have HE := hid (erase_split l k)
  clear h hn
  have e1 : ((k : Int) + 1) = ((k + 1 : Nat) : Int) := by omega
  rw [e1]
  clear e1
  have hjk : k + 1 ≤ n := by omega
  have HJ2 : Hid (k + (n - (k + 1)) = n - 1) := hid (by omega)
  have hnk : n - (k + 1) ≤ n := by omega
  have hk0 : k < k + 1 := by omega
  generalize hj : k + 1 = jj at hk HNW HL2 HE hjk HJ2 hnk hk0 ⊢
  clear hj
  have hne1 : ¬ k = jj := by omega
  have hne2 : ¬ cap = jj := by omega
  have hne3 : k ≤ cap := by omega
  have hne4 : jj < cap := by omega
  have hne5 : k < n := by omega
  have hq1 : Hid (n - (n - 1) = 1 ∧ n - 1 + 1 ≤ cap) := hid (by omega)
  have hne6 : n - 1 ≤ n := by omega
  have hne7 : ¬ cap = n - 1 := by omega
  go_enter Try.func32, Try.ntmps32
  go_wp2
  refine still_tail 6 (by kernel_rfl) (by kernel_rfl) ?_
  simp only [List.take_succ_cons, List.take_zero, List.drop_succ_cons, List.drop_zero]
  repeat still_step
  refine wpStill_nil ?_
  go_wp2_with (first | (refine wpList_append_own_spare _ rfl (.tmp 22) (.tmp 25) 28 rfl base 63 i0 4 Try.underlying28 hi0 hz1 g k cap (dcells (l.take k)) (by rfl) HO1.out ⟨g, jj * 4, none⟩ (n - jj) _ (dcells (l.drop jj)) (by rfl) HL2.out HNW.out (dcells_one _) (by omega) ?_; intro w1 h1 f1; rw [HJ2.out] at h1 ⊢; rw [← dcells_append, ← HE.out] at h1; have H1 := hid h1; have F1 : Hid (Fr (fun k => k = g) w w1) := hid ((Fr.refl _ w).drew.grown f1 (fun k e _ => by cases e; rfl)); clear h1 f1) | (refine list_of rfl (wp_clear_tail (.tmp 31) rfl (by rfl) hq1.out.1 H1.out hq1.out.2 ?_); intro w2 h2 f2; have H2 := hid h2; have F2 := hid f2; clear h2 f2))
  go_ret
  exact ⟨rfl, H2.out, F1.out.trans F2.out⟩
end Go.Proofs.Ytfalhljidnpmgaa
