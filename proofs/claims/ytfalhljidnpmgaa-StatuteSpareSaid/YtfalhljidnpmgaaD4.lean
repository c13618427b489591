/- BentProof: a proof with something changed is some list of findings, in memory of its own. No condition beside the bounds. -/
import Derived.Test.YtfalhljidnpmgaaD1
import Derived.Deep.Upon
import Derived.ArgAppend
set_option linter.unusedVariables false
set_option linter.unusedSimpArgs false
namespace Go.Proofs.Ytfalhljidnpmgaa
open Go.RowKit Go.Proofs.Statute Go.Maps

/-- append(v, ys...), where ys may be empty. -/
theorem append_op0 {α : Type} {sl e : TypeId} {sz by_ : Nat} {z : Value} {enc : α → List Value} (kd : Kind sl e sz by_ z enc)
    {w : World} {base n m : Nat} {v : Value} {xs ys : List α} {lv : Value} {K' : Nat → Prop} (h : w.ownsRow base e sz v n (xs.flatMap enc)) (hb : base ≤ w.heap.size) (hr : Reads K' w sz enc lv ys) (hm : m = ys.length) (hl : n + m ≤ 1000000)
    (h1 : ∀ y ∈ ys, ∀ u ∈ enc y, u.oneCell' = true)
    {o : Oper} {a : Act} {K : Act → World → Prop} {Q : Exit → Act → World → Prop} (s y : Operand) (ho : o.op = .call { callee := .builtin .append, args := #[s, y], argTypes := #[sl, sl] })
    (hs : a.eval s = v) (hy : a.eval y = lv)
    (hh : ∀ ad c w', w'.ownsRow base e sz (.slice ad (n + m) c) (n + m) ((xs ++ ys).flatMap enc) → Fr (fun k => v.ownBlock = some k) w w' → (∀ g, (Value.slice ad (n + m) c).ownBlock = some g → v.ownBlock = some g ∨ g = w.heap.size) → K (a.put o.dst (.slice ad (n + m) c)) w') :
    o.wp Try.prog a w K Q := by
  rcases Nat.eq_zero_or_pos m with h0 | hpos
  · subst h0
    obtain rfl : ys = [] := List.eq_nil_of_length_eq_zero hm.symm
    obtain ⟨al, cc, rfl, _, _, _⟩ := hr
    obtain ⟨ao, c, rfl, hle, hcm⟩ := own_shape h
    obtain ⟨i0, hi0, hz0, hz1, hz2⟩ := info_parts kd.info
    have hsrc : Src Try.prog i0.size sl (.slice al 0 cc) 0 [] w := by
      cases al with
      | none => exact Src.ofNil w kd.under cc
      | some ad => exact Src.ofSlice w kd.under ad 0 cc [] (by simp) (by simp) (by simp)
    have hrun := run_append_nothing (P := Try.prog) w sl sl o.type e i0 kd.under hi0 ao n c hle (.slice al 0 cc) hsrc
    simp only [List.length_nil] at hy
    unfold Oper.wp
    simp [execOp, ho, resolve, invoke, builtin, hs, hy, hrun, Result.andThen]
    exact hh ao c w (by simpa using h) (Fr.refl _ _) (fun g hg => .inl hg)
  · refine append_op kd h hb hr hm hl hpos h1 s y ho hs hy (fun g c w' h2 h3 h4 => hh _ c w' h2 h3 (fun g' hg => ?_))
    simp only [Value.ownBlock, Option.some.injEq] at hg
    subst hg
    exact h4
theorem append_nothing_op {sl e : TypeId} {sz by_ : Nat} {z : Value} {α : Type} {enc : α → List Value} (kd : Kind sl e sz by_ z enc) {w : World} {ao al : Option Addr} {n cap cc : Nat} (hle : n ≤ cap)
    {o : Oper} {a : Act} {K : Act → World → Prop} {Q : Exit → Act → World → Prop} (s y : Operand) (ho : o.op = .call { callee := .builtin .append, args := #[s, y], argTypes := #[sl, sl] })
    (hs : a.eval s = .slice ao n cap) (hy : a.eval y = .slice al 0 cc) (hh : K (a.put o.dst (.slice ao n cap)) w) : o.wp Try.prog a w K Q := by
  obtain ⟨i0, hi0, hz0, hz1, hz2⟩ := info_parts kd.info
  have hsrc : Src Try.prog i0.size sl (.slice al 0 cc) 0 [] w := by
    cases al with
    | none => exact Src.ofNil w kd.under cc
    | some ad => exact Src.ofSlice w kd.under ad 0 cc [] (by simp) (by simp) (by simp)
  have hrun := run_append_nothing (P := Try.prog) w sl sl o.type e i0 kd.under hi0 ao n cap hle (.slice al 0 cc) hsrc
  unfold Oper.wp
  simp [execOp, ho, resolve, invoke, builtin, hs, hy, hrun, Result.andThen]
  exact hh
theorem reads_flat {α : Type} {K : Nat → Prop} {w : World} {sz : Nat} {enc : α → List Value} {b o n c : Nat} {xs : List α} (he : ∀ x, (enc x).length = sz) (hsz : 0 < sz) (h : Reads K w sz enc (.slice (some ⟨b, o, none⟩) n c) xs) : ∀ p u, (xs.flatMap enc)[p]? = some u → w.cell? ⟨b, o + p, none⟩ = some u := by
  obtain ⟨a', c', e, _, _, h3⟩ := h
  injection e with e1 _ _
  intro p u hu
  have hp : p < xs.length * sz := by
    have := (List.getElem?_eq_some_iff.1 hu).1
    rwa [flat_length he] at this
  have hdiv : p / sz < xs.length := Nat.div_lt_of_lt_mul (by rw [Nat.mul_comm]; exact hp)
  obtain ⟨b', o', ea, _, _, hx⟩ := h3 (Nat.lt_of_le_of_lt (Nat.zero_le _) hdiv)
  rw [ea] at e1
  injection e1 with e1
  injection e1 with e1 e2 _
  subst e1 e2
  have hj2 : p / sz * sz + p % sz = p := Nat.div_add_mod' p sz
  rw [← hj2, ← Nat.add_assoc]
  refine hx (p / sz) hdiv (p % sz) u ?_
  rw [← flat_get he xs (p / sz) hdiv (p % sz) (Nat.mod_lt _ hsz), hj2]
  exact hu
theorem own_cap {w : World} {base : Nat} {e : TypeId} {sz n m c : Nat} {a : Option Addr} {xs : List Value} (h : w.ownsRow base e sz (.slice a m c) n xs) : m = n ∧ n ≤ c ∧ c ≤ 9223372036854775807 := by
  obtain ⟨a', c', e, h1, h2⟩ := own_shape h
  injection e with e1 e2 e3
  subst e2 e3
  exact ⟨rfl, h1, h2⟩
theorem encD_length (x : Fnd) : (encD x).length = 4 := rfl
theorem reads_upd {K : Nat → Prop} {w w' : World} {g n cap k : Nat} {t : TypeId} {cur cur' : Array Value} {l : List Fnd} (hr : Reads K w 4 encD (.slice (some ⟨g, 0, none⟩) n cap) l) (hg : w.heap[g]? = some (.cells cur t (0, 0))) (hg' : w'.heap[g]? = some (.cells cur' t (0, 0))) (hk : k < l.length) (x : Fnd)
    (hsame : ∀ p, ¬ (k * 4 ≤ p ∧ p < k * 4 + 4) → cur'[p]? = cur[p]?) (hnew : ∀ j u, (encD x)[j]? = some u → cur'[k * 4 + j]? = some u) : Reads K w' 4 encD (.slice (some ⟨g, 0, none⟩) n cap) (l.set k x) := by
  obtain ⟨a', c', e, h1, h2, h3⟩ := hr
  injection e with e1 e2 e3
  subst e2 e3
  refine ⟨_, cap, by rw [List.length_set], by rw [List.length_set]; exact h1, h2, fun hp => ?_⟩
  rw [List.length_set] at hp
  obtain ⟨b, o, ea, hkb, hb, hx⟩ := h3 hp
  rw [ea] at e1
  injection e1 with e1
  injection e1 with e1 e4 _
  subst e1 e4
  refine ⟨g, 0, rfl, hkb, row_lt hg', fun i hi j u hu => ?_⟩
  have hi' : i < l.length := by simpa using hi
  have hc : ∀ p, w.cell? ⟨g, p, none⟩ = cur[p]? := fun p => by simp [World.cell?, hg]
  have hc' : ∀ p, w'.cell? ⟨g, p, none⟩ = cur'[p]? := fun p => by simp [World.cell?, hg']
  have hj4 : j < 4 := by
    have := (List.getElem?_eq_some_iff.1 hu).1
    rwa [encD_length] at this
  rw [hc', Nat.zero_add]
  by_cases hik : i = k
  · subst hik
    rw [List.getElem_set_self] at hu
    exact hnew j u hu
  · rw [List.getElem_set_ne (Ne.symm hik)] at hu
    rw [hsame _ (by omega), ← hc]
    have := hx i hi' j u hu
    rwa [Nat.zero_add] at this
theorem own_rowD {w : World} {base g n cap : Nat} {l : List Fnd} (h : w.ownsRow base 63 4 (.slice (some ⟨g, 0, none⟩) n cap) n (l.flatMap encD)) (hn : n = l.length) : ∃ cur, w.heap[g]? = some (.cells cur 63 (0, 0)) ∧ base ≤ g ∧ n * 4 ≤ cur.size ∧ ∀ i (hi : i < l.length) j u, (encD l[i])[j]? = some u → cur[i * 4 + j]? = some u := by
  subst hn
  have hr := own_reads (K := fun _ => True) (enc := encD) (fun _ => rfl) h (fun _ _ => trivial)
  obtain ⟨_, h⟩ := h
  rcases h with ⟨e, _⟩ | ⟨g', cap', cur, e, h1, h2, h3, h4, h5, h6⟩
  · cases e
  · injection e with e1 _ e3
    injection e1 with e1
    injection e1 with e1 _ _
    subst e1 e3
    refine ⟨cur, h2, h1, by omega, fun i hi j u hu => ?_⟩
    obtain ⟨a', c', e, _, _, h3'⟩ := hr
    injection e with e1 _ _
    obtain ⟨b, o, ea, _, _, hx⟩ := h3' (by omega)
    rw [ea] at e1
    injection e1 with e1
    injection e1 with e1 e4 _
    subst e1 e4
    have := hx i hi j u hu
    simpa [World.cell?, h2] using this
def BentR (w : World) (l : List Fnd) (e : Ending) (w' : World) : Prop :=
  ∃ a m c l', e = .returned (.slice a m c) ∧ m = l'.length ∧ m ≤ l.length + 1 ∧ Reads (fun _ => True) w' 4 encD (.slice a m c) l' ∧ Fr (fun _ => False) w w'
set_option maxRecDepth 100000 in
set_option maxHeartbeats 12800000 in
theorem bent_any {K : Nat → Prop} {w : World} {lv : Value} {l : List Fnd} (hr : Reads K w 4 encD lv l) (hl : l.length ≤ 100000) (how n at_ : Int) (h1 : I64 how) (h2 : I64 n) (h3 : I64 at_) :
    Calls Try.prog 14 #[lv, .int .i64 how, .int .i64 n, .int .i64 at_] w (BentR w l) := by
  have HO : Hid ((w.alloc (.cells #[] 63)).ownsRow w.heap.size 63 4 (.slice (some ⟨w.heap.size, 0, none⟩) 0 0) 0 (([] : List Fnd).flatMap encD)) := hid (World.ownsRow_lit w #[] 0 (Nat.le_refl _) (by unfold maxLen; omega) rfl)
  have HR := hid (hr.fr ((Fr.refl (fun _ => False) w).alloc (.cells #[] 63)) (fun _ _ e => e))
  obtain ⟨al, cc, rfl, _⟩ := hr
  go_enter Try.func14, Try.ntmps14
  go_upto_region 2 with (refine list_of rfl (append_op0 kindD HO.out (by simp) HR.out rfl (by omega) (fun y _ => encD_one y) (.tmp 11) (.tmp 12) rfl (by rfl) (by rfl) ?_); intro ad c2 w2 h2 f2 g2; simp only [Nat.zero_add, List.nil_append] at h2 g2 ⊢; have H2 := hid h2; have F2 := hid f2; clear h2 f2)
  have FF : Hid (Fr (fun _ => False) w w2) := hid (((Fr.refl (fun _ => False) w).alloc _).then F2.out (fun i hi e => by simp [Value.ownBlock] at e; omega))
  clear HO HR F2
  by_cases h0 : l.length = 0
  · have HL : Hid (l = []) := hid (List.eq_nil_of_length_eq_zero h0)
    rw [h0] at H2 ⊢
    have HN := hid (reads_one_new w2 ⟨n, false, -1, -1⟩)
    go_wp2_with (refine list_of rfl (append_op0 kindD (xs := l) (ys := [⟨n, false, -1, -1⟩]) (n := 0) (m := 1) (own_fr H2.out ((Fr.refl (fun _ => False) w2).alloc _) (fun _ _ e => e)) (by have := FF.out.size; simp; omega) HN.out rfl (by omega) (fun y _ => encD_one y) (.tmp 17) (.tmp 20) rfl (by rfl) (by rfl) ?_); intro ad3 c3 w3 h3 f3 g3; have H3 := hid h3; have F3 := hid f3; clear h3 f3)
    go_ret
    exact ⟨ad3, 1, c3, l ++ [⟨n, false, -1, -1⟩], rfl, by simp [HL.out], by omega, by
      have := own_reads (K := fun _ => True) (enc := encD) (w := w3) (base := w.heap.size) (e := 63) (sz := 4) (v := .slice ad3 1 c3) (xs := l ++ [⟨n, false, -1, -1⟩]) (fun _ => rfl) (by rw [HL.out] at H3 ⊢; exact H3.out) (fun _ _ => trivial)
      exact this, ((FF.out.alloc _).then F3.out (fun i hi e => by have := own_base H2.out i e; omega))⟩
  · obtain ⟨g, cap0, heq, _, _⟩ := H2.out.form (by omega)
    injection heq with ha _ hcc
    subst ha hcc
    obtain ⟨_, hlc, hlm⟩ := own_cap H2.out
    have HRD := hid (own_reads (K := fun _ => True) (enc := encD) (fun _ => rfl) H2.out (fun _ _ => trivial))
    obtain ⟨cur, hg, hbg, hsz, hcur⟩ := own_rowD H2.out rfl
    have hin := pickF_in at_ l.length (by omega)
    have P1 := hid (pick27 at_ l.length · h3 (by omega) (by omega))
    have P2 := hid (pick27 how 6 · h1 (by omega) (by omega))
    have hin6 := pickF_in how 6 (by omega)
    obtain ⟨k, hk⟩ := Int.eq_ofNat_of_zero_le hin.1
    obtain ⟨m6, hm6⟩ := Int.eq_ofNat_of_zero_le hin6.1
    rw [hk] at P1 hin
    rw [hm6] at P2 hin6
    have hkl : k < l.length := by omega
    have hkc : k ≤ c2 := by omega
    obtain ⟨b, o, eb, d1, d2, d3, d4⟩ := reads_four HRD.out k hkl
    injection eb with eb
    injection eb with eb eo _
    subst eb eo
    rw [Nat.zero_add] at d1 d2 d3 d4
    have hfz := fun i => row_free hg i
    have HK := hid hcur
    have HG := hid hg
    have hc := hcur k hkl
    generalize hx : l[k] = x at d1 d2 d3 d4 hc
    obtain ⟨x1, x2, x3, x4⟩ := x
    dsimp only at d1 d2 d3 d4
    have q0 := hc 0 _ rfl
    have q1 := hc 1 _ rfl
    have q2 := hc 2 _ rfl
    have q3 := hc 3 _ rfl
    clear hc hcur hk hm6 hg
    have Q0 := hid q0
    have Q1 := hid q1
    have Q2 := hid q2
    have Q3 := hid q3
    clear q0 q1 q2 q3
    have T1 := hid trivial
    go_upto_region 7 with (first | (go_at_call 27; clear T1; refine (P1.out _).mono ?_; rintro e w3 ⟨rfl, rfl⟩) | (go_at_call 27; refine (P2.out _).mono ?_; rintro e w3 ⟨rfl, rfl⟩))
    have hm6c : m6 = 0 ∨ m6 = 1 ∨ m6 = 2 ∨ m6 = 3 ∨ m6 = 4 ∨ m6 = 5 := by omega
    have FIN : Hid (∀ (v : Value) (j : Nat) (x' : Fnd), j < 4 → (encD x')[j]? = some v → (∀ j', j' ≠ j → (encD x')[j']? = (encD ⟨x1, x2, x3, x4⟩)[j']?) → BentR w l (.returned (.slice (some ⟨g, 0, none⟩) l.length c2)) (w2.setCell ⟨g, k * 4 + j, none⟩ v)) := hid (fun v j x' hj hv hn => by
      have hg' := heap_setCell_same w2 g (k * 4 + j) cur 63 v HG.out
      refine ⟨_, l.length, c2, l.set k x', rfl, by simp, by omega, reads_upd HRD.out HG.out hg' hkl x' (fun p hp => ?_) (fun j' u hu => ?_), FF.out.setCell (p := ⟨g, k * 4 + j, none⟩) (fun h => by simp at h; omega) v⟩
      · rw [Array.getElem?_setIfInBounds_ne (by omega)]
      · by_cases hjj : j' = j
        · subst hjj
          rw [hv] at hu
          rw [Array.getElem?_setIfInBounds_self_of_lt (by omega)]
          exact hu
        · rw [Array.getElem?_setIfInBounds_ne (by omega)]
          rw [hn j' hjj, ← hx] at hu
          exact HK.out k hkl j' u hu)
    rcases hm6c with rfl | rfl | rfl | rfl | rfl | rfl
    · go_wp2
      go_ret
      exact FIN.out (.int .i64 n) 0 ⟨n, x2, x3, x4⟩ (by omega) rfl (fun j' hj' => by
        rcases j' with _ | _ | _ | _ | j'
        all_goals first | rfl | exact absurd rfl hj')
    · go_wp2
      go_ret
      exact FIN.out (.bool !x2) 1 ⟨x1, !x2, x3, x4⟩ (by omega) rfl (fun j' hj' => by
        rcases j' with _ | _ | _ | _ | j'
        all_goals first | rfl | exact absurd rfl hj')
    · go_wp2
      go_ret
      exact FIN.out (.int .i64 n) 2 ⟨x1, x2, n, x4⟩ (by omega) rfl (fun j' hj' => by
        rcases j' with _ | _ | _ | _ | j'
        all_goals first | rfl | exact absurd rfl hj')
    · go_wp2
      go_ret
      exact FIN.out (.int .i64 n) 3 ⟨x1, x2, x3, n⟩ (by omega) rfl (fun j' hj' => by
        rcases j' with _ | _ | _ | _ | j'
        all_goals first | rfl | exact absurd rfl hj')
    · go_wp2
      refine still_tail 8 (by kernel_rfl) (by kernel_rfl) ?_
      simp only [List.take_succ_cons, List.take_zero, List.drop_succ_cons, List.drop_zero]
      repeat still_step
      refine wpStill_step (fun K hK => ?_)
      go_simp
      have hw1 : IntKind.i64.wrap ((k : Int) + 1) = ((k + 1 : Nat) : Int) := by
        rw [show ((k : Int) + 1) = ((k + 1 : Nat) : Int) by omega]
        exact Go.IntWalk.i64_in _ ⟨by omega, by omega⟩
      rw [hw1, if_pos ⟨by omega, by omega⟩, Int.toNat_natCast]
      refine ⟨rfl, hK _ ?_⟩
      clear hK K
      refine wpStill_nil ?_
      have hflat := reads_flat (sz := 4) (enc := encD) (fun _ => rfl) (by decide) HRD.out
      have HFL := hid hflat
      clear hflat
      by_cases hlast : k + 1 < l.length
      · rw [if_neg (by omega)]
        obtain ⟨i0, hi0, hz0, hz1, hz2⟩ := info_parts kindD.info
        refine wpList_append_grows _ rfl (.tmp 76) (.tmp 80) 28 rfl 63 i0 dzero 4 32 Try.underlying28 hi0 hz0 hz1 hz2 rfl (by omega) (some ⟨g, 0, none⟩) k k ((l.take k).flatMap encD) rfl (fun e => by cases e) (by rw [flat_length encD_length, List.length_take]; omega) ?_ ⟨g, (k + 1) * 4, none⟩ (l.length - (k + 1)) (c2 - (k + 1)) ((l.drop (k + 1)).flatMap encD) rfl (by rw [flat_length encD_length, List.length_drop]) ?_ ?_ (by omega) (by unfold maxLen; omega) (by omega) ?_
        · intro b hb j u hu
          injection hb with hb
          subst hb
          have h0 : (l.flatMap encD)[j]? = some u := by
            conv => lhs; rw [← List.take_append_drop k l, List.flatMap_append]
            rw [List.getElem?_append_left (List.getElem?_eq_some_iff.1 hu).1]
            exact hu
          have := HFL.out j u h0
          rw [show (⟨g, 0, none⟩ : Addr).add j = ⟨g, 0 + j, none⟩ by unfold Addr.add; split <;> simp_all]
          exact this
        · intro j u hu
          have h0 : (l.flatMap encD)[(k + 1) * 4 + j]? = some u := by
            conv => lhs; rw [← List.take_append_drop (k + 1) l, List.flatMap_append]
            have hlt : ((l.take (k + 1)).flatMap encD).length = (k + 1) * 4 := by rw [flat_length encD_length, List.length_take]; omega
            rw [List.getElem?_append_right (by omega), hlt, show (k + 1) * 4 + j - (k + 1) * 4 = j by omega]
            exact hu
          have := HFL.out _ u h0
          rw [Nat.zero_add] at this
          rw [show (⟨g, (k + 1) * 4, none⟩ : Addr).add j = ⟨g, (k + 1) * 4 + j, none⟩ by unfold Addr.add; split <;> simp_all]
          exact this
        · intro u hu
          obtain ⟨y, _, hy⟩ := List.mem_flatMap.1 hu
          exact encD_one y u hy
        · intro v' w' h5 h6
          obtain ⟨a5, c5, rfl, _, _⟩ := own_shape h5
          have H5 := hid h5
          have F5 := hid (FF.out.drew.grown h6 (fun _ e => by cases e))
          clear h5 h6
          go_wp2
          go_ret
          refine ⟨a5, _, c5, l.take k ++ l.drop (k + 1), rfl, by simp; omega, by omega, ?_, F5.out⟩
          have h7 := H5.out
          rw [← List.flatMap_append] at h7
          have hlen : k + (l.length - (k + 1)) = (l.take k ++ l.drop (k + 1)).length := by simp; omega
          rw [hlen] at h7 ⊢
          exact own_reads (K := fun _ => True) (enc := encD) (fun _ => rfl) h7 (fun _ _ => trivial)
      · have hke : k + 1 = l.length := by omega
        have hz : l.length - (k + 1) = 0 := by omega
        rw [hz]
        have hk2 : k ≤ k := Nat.le_refl k
        refine list_of rfl (append_nothing_op kindD hk2 (.tmp 76) (.tmp 80) rfl rfl rfl ?_)
        go_wp2
        all_goals
          go_ret
          refine ⟨some ⟨g, 0, none⟩, k, k, l.take k, rfl, by simp; omega, by omega, ⟨_, k, by rw [List.length_take, Nat.min_eq_left (by omega)], by rw [List.length_take]; omega, by omega, fun hp => ⟨g, 0, rfl, trivial, row_lt HG.out, fun i hi j u hu => ?_⟩⟩, FF.out.drew⟩
          have hi' : i < l.length := by rw [List.length_take] at hi; omega
          rw [List.getElem_take] at hu
          have := HK.out i hi' j u hu
          show w2.cell? _ = _
          simpa [World.cell?, HG.out] using this
    · go_wp2
      go_ret
      have e1 := heap_setCell_same w2 g (k * 4) cur 63 (.int .i64 x1) HG.out
      have e2 := heap_setCell_same _ g (k * 4 + 1) _ 63 (.bool true) e1
      have e3 := heap_setCell_same _ g (k * 4 + 2) _ 63 (.int .i64 (-1)) e2
      have e4 := heap_setCell_same _ g (k * 4 + 3) _ 63 (.int .i64 n) e3
      refine ⟨_, l.length, c2, l.set k ⟨x1, true, -1, n⟩, rfl, by simp, by omega, reads_upd HRD.out HG.out e4 hkl ⟨x1, true, -1, n⟩ (fun p hp => ?_) (fun j' u hu => ?_), ?_⟩
      · rw [Array.getElem?_setIfInBounds_ne (by omega), Array.getElem?_setIfInBounds_ne (by omega), Array.getElem?_setIfInBounds_ne (by omega), Array.getElem?_setIfInBounds_ne (by omega)]
      · have hsz2 : k * 4 + 3 < cur.size := by omega
        rcases j' with _ | _ | _ | _ | j'
        · simp only [Nat.add_zero] at hu ⊢
          rw [Array.getElem?_setIfInBounds_ne (by omega), Array.getElem?_setIfInBounds_ne (by omega), Array.getElem?_setIfInBounds_ne (by omega), Array.getElem?_setIfInBounds_self_of_lt (by omega)]
          exact hu
        · rw [Array.getElem?_setIfInBounds_ne (by omega), Array.getElem?_setIfInBounds_ne (by omega), Array.getElem?_setIfInBounds_self_of_lt (by simp; omega)]
          exact hu
        · rw [Array.getElem?_setIfInBounds_ne (by omega), Array.getElem?_setIfInBounds_self_of_lt (by simp; omega)]
          exact hu
        · rw [Array.getElem?_setIfInBounds_self_of_lt (by simp; omega)]
          exact hu
        · cases hu
      · exact (((FF.out.setCell (p := ⟨g, k * 4, none⟩) (fun h => by simp at h; omega) _).setCell (p := ⟨g, k * 4 + 1, none⟩) (fun h => by simp at h; omega) _).setCell (p := ⟨g, k * 4 + 2, none⟩) (fun h => by simp at h; omega) _).setCell (p := ⟨g, k * 4 + 3, none⟩) (fun h => by simp at h; omega) _
end Go.Proofs.Ytfalhljidnpmgaa
