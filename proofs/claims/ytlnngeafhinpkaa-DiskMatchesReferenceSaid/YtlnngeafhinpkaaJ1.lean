/- The reference disk as it lies in memory, and its visible content. No condition beside the sizes. -/
import Derived.Test.YtlnngeafhinpkaaJ0
set_option linter.unusedVariables false
set_option linter.unusedSimpArgs false
namespace Go.Proofs.Ytlnngeafhinpkaa
open Go.RowKit

theorem lay_take (d : Bs) (p : List (Nat × ByteArray)) (k : Nat) (hk : k < p.length) : lay d (p.take (k + 1)) = put (lay d (p.take k)) p[k].1 p[k].2.data.toList := by
  rw [List.take_add_one, List.getElem?_eq_getElem hk]
  exact lay_snoc _ _ _
theorem lay_length (n : Nat) : ∀ (p : List (Nat × ByteArray)) (d : Bs), d.length = n → Fits n p → (lay d p).length = n
  | [], d, hd, _ => hd
  | x :: p, d, hd, hf => by
    have h1 := hf x (by simp)
    have h2 : x.2.data.toList.length = x.2.size := by rw [Array.length_toList]; rfl
    exact lay_length n p (put d x.1 x.2.data.toList) (by rw [put_length _ _ _ (by omega)]; exact hd) (fun y hy => hf y (by simp [hy]))
theorem Fits.take {n : Nat} {p : List (Nat × ByteArray)} (h : Fits n p) (k : Nat) : Fits n (p.take k) := fun y hy => h y (List.mem_of_mem_take hy)

structure IsRef (w : World) (R : Nat) (dv pv : Value) (n : Nat) (s : St) : Prop where
  hR : w.heap[R]? = some (.cells [dv, pv, .bool s.off, .int .i64 s.left].toArray 43 (0, 0))
  hd : w.ownsRow 0 5 1 dv n (bvs s.dur)
  hp : w.ownsRow 0 80 2 pv s.pend.length (pcells s.pend)
  ld : s.dur.length = n
  n1 : 1 ≤ n
  n2 : n ≤ 4194304
  fit : Fits n s.pend
def RFoot (R : Nat) (dv pv : Value) (k : Nat) : Prop := k = R ∨ dv.ownBlock = some k ∨ pv.ownBlock = some k
section
variable {w : World} {R n : Nat} {dv pv : Value} {s : St}
theorem IsRef.c0 (h : IsRef w R dv pv n s) : w.cell? ⟨R, 0, none⟩ = some dv := by rw [row_cell h.hR]; rfl
theorem IsRef.c1 (h : IsRef w R dv pv n s) : w.cell? ⟨R, 1, none⟩ = some pv := by rw [row_cell h.hR]; rfl
theorem IsRef.c2 (h : IsRef w R dv pv n s) : w.cell? ⟨R, 2, none⟩ = some (.bool s.off) := by rw [row_cell h.hR]; rfl
theorem IsRef.c3 (h : IsRef w R dv pv n s) : w.cell? ⟨R, 3, none⟩ = some (.int .i64 s.left) := by rw [row_cell h.hR]; rfl
theorem IsRef.fz (h : IsRef w R dv pv n s) (i : Nat) : w.frozen? ⟨R, i, none⟩ = false := row_free h.hR i
theorem IsRef.lR (h : IsRef w R dv pv n s) : R < w.heap.size := row_lt h.hR
theorem IsRef.lt (h : IsRef w R dv pv n s) : ∀ k, RFoot R dv pv k → k < w.heap.size := by
  rintro k (rfl | hk | hk)
  · exact h.lR
  · exact (own_base h.hd k hk).2
  · exact (own_base h.hp k hk).2
theorem IsRef.nd (h : IsRef w R dv pv n s) : dv.ownBlock ≠ some R := own_ne h.hd h.hR (by decide)
theorem IsRef.np (h : IsRef w R dv pv n s) : pv.ownBlock ≠ some R := own_ne h.hp h.hR (by decide)
theorem IsRef.dp (h : IsRef w R dv pv n s) (k : Nat) (h1 : dv.ownBlock = some k) : pv.ownBlock ≠ some k := by
  obtain ⟨y, hy⟩ := own_block h.hd h1
  exact own_ne h.hp hy (by decide)
theorem IsRef.keep {w' : World} (h : IsRef w R dv pv n s) (hk : ∀ k, RFoot R dv pv k → w'.heap[k]? = w.heap[k]?) : IsRef w' R dv pv n s where
  hR := (hk R (.inl rfl)).trans h.hR
  hd := own_kept h.hd (fun k e => hk k (.inr (.inl e)))
  hp := own_kept h.hp (fun k e => hk k (.inr (.inr e)))
  ld := h.ld
  n1 := h.n1
  n2 := h.n2
  fit := h.fit
theorem IsRef.frame {w' : World} {S : Nat → Prop} (h : IsRef w R dv pv n s) (hf : Fr S w w') (hS : ∀ k, RFoot R dv pv k → ¬ S k) : IsRef w' R dv pv n s :=
  h.keep fun k hk => hf.block k (h.lt k hk) (hS k hk)
theorem IsRef.alloc (h : IsRef w R dv pv n s) (o : Obj) : IsRef (w.alloc o) R dv pv n s := h.frame (S := fun _ => False) ((Fr.refl _ _).alloc o) (fun _ _ h => h)
theorem IsRef.drewN (h : IsRef w R dv pv n s) (q : Nat) : IsRef (w.drewN q) R dv pv n s := h.frame (S := fun _ => False) ((Fr.refl _ _).drewN q) (fun _ _ h => h)
theorem IsRef.drew (h : IsRef w R dv pv n s) : IsRef w.drew R dv pv n s := h.frame (S := fun _ => False) ((Fr.refl _ _).drew) (fun _ _ h => h)
theorem IsRef.dform (h : IsRef w R dv pv n s) : ∃ g c, dv = .slice (some ⟨g, 0, none⟩) n c ∧ g < w.heap.size := by
  obtain ⟨g, c, e, _, h2⟩ := h.hd.form (by have := h.n1; omega)
  exact ⟨g, c, e, h2⟩
theorem IsRef.pform (h : IsRef w R dv pv n s) : ∃ a c, pv = .slice a s.pend.length c ∧ s.pend.length ≤ c := by
  rcases h.hp.2 with ⟨rfl, h0⟩ | ⟨g, cap, cur, rfl, _, _, hc, _⟩
  · exact ⟨none, 0, by rw [h0], by omega⟩
  · exact ⟨_, cap, rfl, hc⟩
theorem IsRef.at {a : Option Addr} {c : Nat} (h : IsRef w R dv (.slice a s.pend.length c) n s) (k : Nat) (hk : k < s.pend.length) :
    ∃ g, a = some ⟨g, 0, none⟩ ∧ w.cell? ⟨g, k * 2, none⟩ = some (.int .i64 (s.pend[k]).1) ∧ w.cell? ⟨g, k * 2 + 1, none⟩ = some (.string (s.pend[k]).2) := by
  obtain ⟨g, cap, e, _, h2⟩ := h.hp.form (by omega)
  injection e with e1 _ e2
  subst e1 e2
  obtain ⟨p1, p2⟩ := pcells_get s.pend k hk
  exact ⟨g, rfl, by rw [h.hp.cellAt _ (by omega)]; exact p1, by rw [h.hp.cellAt _ (by omega)]; exact p2⟩
end
theorem info5r : (Try.prog.info? 5).map (fun i => (i.zero, i.size, i.bytes)) = some (some (.int .u8 0), 1, 1) := by kernel_rfl

/-- append([]byte{}, x...) of a row of bytes. -/
theorem append_bytes {w : World} {dv : Value} {n : Nat} {cur : Bs} (h : w.ownsRow 0 5 1 dv n (bvs cur)) (hl : cur.length = n) (h1 : 1 ≤ n) (h2 : n ≤ 4194304)
    {ops : Array Oper} {rest : List Oper} {o : Oper} {a : Act} {Q : Exit → Act → World → Prop} (hgd : o.guard = none) (s y : Operand) (ho : o.op = .call { callee := .builtin .append, args := #[s, y], argTypes := #[40, 40] })
    {W : World} (hW : W = w.alloc (.cells #[] 5)) (hs : a.eval s = .slice (some ⟨w.heap.size, 0, none⟩) 0 0) (hy : a.eval y = dv)
    (hh : ∀ g cap w', w'.ownsRow w.heap.size 5 1 (.slice (some ⟨g, 0, none⟩) n cap) n (bvs cur) → Fr (fun _ => False) w w' → wpList Try.prog ops Q rest (a.put o.dst (.slice (some ⟨g, 0, none⟩) n cap)) w') :
    wpList Try.prog ops Q (o :: rest) a W := by
  subst hW
  obtain ⟨i0, hi0, hz0, hz1, hz2⟩ := info_parts info5r
  have hown : (w.alloc (.cells #[] 5)).ownsRow w.heap.size 5 1 (.slice (some ⟨w.heap.size, 0, none⟩) 0 0) 0 [] := World.ownsRow_lit w #[] 0 (Nat.le_refl _) (by unfold maxLen; omega) rfl
  obtain ⟨g, cap, rfl, _, _⟩ := h.form (by omega)
  have hd2 := h.alloc (.cells #[] 5)
  refine wpList_append_own _ hgd s y 40 ho w.heap.size 5 i0 (.int .u8 0) 1 1 Try.underlying40 hi0 hz0 hz1 hz2 rfl (by decide) _ 0 [] hs hown ⟨g, 0, none⟩ n cap (bvs cur) hy (by rw [bvs_length]; omega) ?_ (bvs_one cur) (by unfold maxLen; omega) (by omega) (by simp) ?_
  · intro j u hj
    have hjl : j < (bvs cur).length := (List.getElem?_eq_some_iff.1 hj).1
    rw [bvs_length] at hjl
    have e : (⟨g, 0, none⟩ : Addr).add j = ⟨g, j, none⟩ := by unfold Addr.add; split <;> simp_all
    rw [e, hd2.cellAt j (by omega)]
    exact hj
  · intro v' w' h4 h5 _
    rw [Nat.zero_add, List.nil_append] at h4
    obtain ⟨g', cap', rfl, _, _⟩ := h4.form (by omega)
    exact hh g' cap' w' h4 (((Fr.refl _ _).alloc _).grown h5 (fun k hk hlt => by simp [Value.ownBlock] at hk; omega))

def Vis (w : World) (n : Nat) (s : St) (e : Ending) (w' : World) : Prop :=
  ∃ g cap, e = .returned (.slice (some ⟨g, 0, none⟩) n cap) ∧ w'.ownsRow w.heap.size 5 1 (.slice (some ⟨g, 0, none⟩) n cap) n (bvs (lay s.dur s.pend)) ∧ Fr (fun _ => False) w w'

set_option maxRecDepth 100000 in
set_option maxHeartbeats 1600000 in
theorem visible_any {w : World} {R n : Nat} {dv pv : Value} {s : St} (h : IsRef w R dv pv n s) (hpl : s.pend.length ≤ 1000000) : Calls Try.prog 34 #[.pointer (some ⟨R, 0, none⟩)] w (Vis w n s) := by
  have n2 := h.n2
  obtain ⟨pa, pc, rfl, hpc⟩ := h.pform
  have c0 : (w.alloc (.cells #[] 5)).cell? ⟨R, 0, none⟩ = some dv := (h.alloc _).c0
  have H := hid h
  clear h
  go_enter Try.func34, Try.ntmps34
  go_wp2_with (refine append_bytes H.out.hd H.out.ld H.out.n1 H.out.n2 rfl (.tmp 5) (.tmp 9) rfl (by rfl) (by rfl) (by rfl) ?_; intro g cap w1 ho1 f1)
  have HO := hid ho1
  have F1 := hid f1
  clear ho1 f1 c0
  go_loopw [4] (fun i wr => ∃ k : Nat, k ≤ s.pend.length ∧ i = .int .i64 k ∧ Hid (wr.ownsRow w.heap.size 5 1 (.slice (some ⟨g, 0, none⟩) n cap) n (bvs (lay s.dur (s.pend.take k)))) ∧ Hid (Fr (fun _ => False) w wr)) (fun i _ => s.pend.length - (intOf i).toNat)
  case atStart => exact ⟨0, Nat.zero_le _, rfl, HO, F1⟩
  case round =>
    clear HO F1
    obtain ⟨k, hk, rfl, hD, hF⟩ := hrel
    have HR := hid (H.out.frame hF.out (fun _ _ h => h))
    have c1 := HR.out.c1
    by_cases hlt : k < s.pend.length
    · obtain ⟨g2, rfl, d0, d1⟩ := HR.out.at k hlt
      have hfit := H.out.fit s.pend[k] (List.getElem_mem hlt)
      have hlen := lay_length n (s.pend.take k) s.dur H.out.ld (H.out.fit.take k)
      have HT := hid (lay_take s.dur s.pend k hlt)
      generalize s.pend[k] = x at d0 d1 hfit HT
      obtain ⟨xo, xs⟩ := x
      dsimp only at d0 d1 hfit HT
      have HL := hid hlen
      have HC : Hid (∀ q, Calls Try.prog 44 #[.slice (some ⟨g, 0, none⟩) n cap, .int .i64 xo, .string xs] (wr.drewN q) fun e w' => e = .returned (.tuple #[]) ∧ w'.ownsRow w.heap.size 5 1 (.slice (some ⟨g, 0, none⟩) n cap) n (bvs (put (lay s.dur (s.pend.take k)) xo xs.data.toList)) ∧ Fr (fun k => k = g) (wr.drewN q) w') :=
        hid (fun q => apply_any (wr.drewN q) w.heap.size g n cap xo _ xs (own_kept hD.out (fun _ _ => rfl)) HL.out n2 hfit)
      clear hlen hfit
      have hgb := (own_base hD.out g rfl).1
      clear HR
      go_wp2
      refine still_tail 17 (by kernel_rfl) (by kernel_rfl) ?_
      simp only [List.take_succ_cons, List.take_zero, List.drop_succ_cons, List.drop_zero]
      repeat still_step
      refine wpStill_nil ?_
      go_wp2_with (go_at_call 44; refine (HC.out 1).mono ?_; rintro e w2 ⟨rfl, h2, f2⟩; have H2 := hid h2; have F2 := hid f2; clear h2 f2)
      go_roundw
      case rel => exact ⟨k + 1, by omega, by go_num, hid (by rw [HT.out]; exact H2.out), hid ((hF.out.drewN 1).then F2.out (fun i hi e => by omega))⟩
      case measure => simp [intOf]; omega
    · obtain rfl : k = s.pend.length := by omega
      clear hlt
      go_wp2
      go_ret
      refine ⟨g, cap, rfl, ?_, hF.out⟩
      have := hD.out
      rwa [List.take_length] at this
end Go.Proofs.Ytlnngeafhinpkaa
