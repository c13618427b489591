/- find, if so is right below its number. No condition beside the bounds. -/
import Derived.Test.YtfalhljidnpmgaaB0
set_option linter.unusedVariables false
set_option linter.unusedSimpArgs false
namespace Go.Proofs.Ytfalhljidnpmgaa
open Go.RowKit Go.Proofs.Statute Go.Maps

def SoR (w : World) (b : Nat) (j : Jd) (kn : Nat → Bool) (m : Nat) (v : Bool) (e : Ending) (w' : World) : Prop :=
  e = .returned (.bool v) ∧ ∃ kn', Found w' b j kn' ∧ Fr (fun k => k = b) w w' ∧ (∀ x, kn x = true → kn' x = true) ∧ (∀ x, kn' x = true → kn x = true ∨ x ≤ m) ∧ kn' m = true
def SoAt (ms : List CM) (j : Jd) (m : Nat) : Prop :=
  ∀ (K : Nat → Prop) (w : World) (J b : Nat) (cl rl fl fv gv : Value) (kn : Nat → Bool), JW K w J b cl rl fl fv gv ms j kn → Calls Try.prog 31 #[.pointer (some ⟨J, 0, none⟩), .int .i64 m] w (SoR w b j kn m (j.truth m))
def FindR (w : World) (b : Nat) (j : Jd) (kn : Nat → Bool) (m : Nat) (e : Ending) (w' : World) : Prop :=
  e = .returned (dval (j.fd m)) ∧ ∃ kn', Found w' b j kn' ∧ Fr (fun k => k = b) w w' ∧ (∀ x, kn x = true → kn' x = true) ∧ (∀ x, kn' x = true → kn x = true ∨ x < m)
theorem find_first {α : Type} (p : α → Bool) : ∀ (l : List α) (i : Nat) (h : i < l.length), p l[i] = true → (∀ k (hk : k < i), p (l[k]'(Nat.lt_trans hk h)) = false) → l.find? p = some l[i]
  | [], i, h, _, _ => by simp at h
  | x :: l, 0, h, hp, _ => by rw [List.find?_cons]; rw [List.getElem_cons_zero] at hp ⊢; rw [hp]
  | x :: l, i + 1, h, hp, hb => by
    have h0 := hb 0 (by omega)
    rw [List.getElem_cons_zero] at h0
    rw [List.find?_cons, h0]
    rw [List.getElem_cons_succ] at hp ⊢
    exact find_first p l i (by simpa using h) hp (fun k hk => by have := hb (k + 1) (by omega); rw [List.getElem_cons_succ] at this; exact this)
theorem find_none {α : Type} (p : α → Bool) (l : List α) (h : ∀ k (hk : k < l.length), p l[k] = false) : l.find? p = none := by
  rw [List.find?_eq_none]
  intro x hx
  obtain ⟨i, hi, rfl⟩ := List.getElem_of_mem hx
  rw [h i hi]
  simp
theorem nats_get (l : List Nat) (i : Nat) (h : i < l.length) : (nats l)[i]'(by rw [nats_length]; exact h) = (l[i] : Int) := by simp [nats]
theorem reads_one {K : Nat → Prop} {w : World} {a : Option Addr} {n c : Nat} {xs : List Int} (h : Reads K w 1 encI (.slice a n c) xs) (i : Nat) (hi : i < xs.length) : ∃ b o, a = some ⟨b, o, none⟩ ∧ K b ∧ b < w.heap.size ∧ w.cell? ⟨b, o + i, none⟩ = some (.int .i64 xs[i]) := by
  obtain ⟨a', c', e, _, _, h3⟩ := h
  injection e with e1 _ _
  subst e1
  obtain ⟨b, o, ea, hK, hb, hx⟩ := h3 (by omega)
  have := hx i hi 0 _ rfl
  rw [Nat.mul_one, Nat.add_zero] at this
  exact ⟨b, o, ea, hK, hb, this⟩
theorem fcAt_get {c : Rb} {i : Nat} (h : i < c.fcs.length) : c.fcs[i] = fcAt c i := by unfold fcAt; simp [h]
theorem clAt_get {c : Rb} {ms : List CM} {i : Nat} (hc : c.cls = ms.map CM.x) (h : i < ms.length) : clAt c i = ms[i].x := by unfold clAt; rw [hc]; simp [h]

def ScanR (W : World) (b : Nat) (j : Jd) (kn : Nat → Bool) (m : Nat) (v : Bool) (e : Ending) (W' : World) : Prop :=
  e = .returned (.bool v) ∧ ∃ kn', Found W' b j kn' ∧ Fr (fun k => k = b) W W' ∧ (∀ x, kn x = true → kn' x = true) ∧ (∀ x, kn' x = true → kn x = true ∨ x < m)
theorem scan {K : Nat → Prop} {W : World} {J b m : Nat} {cl rl fl fv gv : Value} {ms : List CM} {j : Jd} {kn : Nat → Bool} (h : JW K W J b cl rl fl fv gv ms j kn) (v : Value) (xs : List Int) {K2 : Nat → Prop} (hr : Reads K2 W 1 encI v xs) (hK2 : ¬ K2 b) (hx : ∀ x ∈ xs, 0 ≤ x ∧ x < m) (hl : xs.length ≤ 1000000)
    (g : Nat) (bd lb : Array Value) (eg : ∀ args w, (callFunc g args).run Try.prog w = .ok (.enter g args) w) (P : Int → Bool)
    (hc : ∀ (W' : World) (kn' : Nat → Bool) (m' : Nat), m' < m → JW K W' J b cl rl fl fv gv ms j kn' → Fr (fun k => k = b) W W' → Calls Try.prog g (bd ++ #[.int .i64 (m' : Int)] ++ lb) W' (SoR W' b j kn' m' (P m'))) :
    Calls Try.prog 56 #[v, .func (.func g) bd lb] W (ScanR W b j kn m (xs.any P)) := by
  have key := containsI (K := K2) (fun _ W' => ∃ kn', Found W' b j kn' ∧ Fr (fun k => k = b) W W' ∧ (∀ x, kn x = true → kn' x = true) ∧ (∀ x, kn' x = true → kn x = true ∨ x < m)) (fun i => (xs[i]?.map P).getD false) g bd lb eg v xs W hl
    ⟨kn, h.map, Fr.refl _ _, fun _ h => h, fun _ h => .inl h⟩ (fun i W' hI => by
      obtain ⟨kn', _, hf, _⟩ := hI
      exact hr.fr hf (fun k hk e => hK2 (by rw [← e]; exact hk))) ?_
  · refine key.mono ?_
    rintro e W' ⟨_, _, hI, he⟩
    exact ⟨by rw [he, any_range], hI⟩
  · rintro i hi W' _ ⟨kn', h1, h2, h3, h4⟩
    have hb := hx _ (List.getElem_mem hi)
    obtain ⟨m', hm'⟩ := Int.eq_ofNat_of_zero_le hb.1
    rw [hm'] at hb
    have hlt : m' < m := by omega
    have e1 : (xs[i]?.map P).getD false = P (m' : Int) := by simp [hi, hm']
    rw [e1, hm']
    refine (hc W' kn' m' hlt (h.fr h2 h1) h2).mono ?_
    rintro e W'' ⟨rfl, kn'', k1, k2, k3, k4, _⟩
    refine ⟨rfl, kn'', k1, h2.trans k2, fun x hx => k3 x (h3 x hx), fun x hx => ?_⟩
    rcases k4 x hx with e | e
    · exact h4 x e
    · exact .inr (by omega)
theorem enters59 : ∀ args w, (callFunc 59 args).run Try.prog w = .ok (.enter 59 args) w := enters_of Try.func59 (by kernel_rfl) rfl
theorem enters31 : ∀ args w, (callFunc 31 args).run Try.prog w = .ok (.enter 31 args) w := enters_of Try.func31 (by kernel_rfl) rfl
set_option maxHeartbeats 800000 in
theorem closure59 {W : World} {J b m' B : Nat} {j : Jd} {kn : Nat → Bool} (hB : W.cell? ⟨B, 0, none⟩ = some (.pointer (some ⟨J, 0, none⟩))) (hs : Calls Try.prog 31 #[.pointer (some ⟨J, 0, none⟩), .int .i64 m'] W (SoR W b j kn m' (j.truth m'))) :
    Calls Try.prog 59 #[.int .i64 m', .pointer (some ⟨B, 0, none⟩)] W (SoR W b j kn m' (!j.truth m')) := by
  have HS := hid hs
  clear hs
  generalize j.truth m' = T at HS
  go_enter Try.func59, Try.ntmps59
  go_wp2_with (go_at_call 31; refine HS.out.mono ?_; rintro e w' ⟨rfl, kn', h⟩; have H := hid h; clear h)
  go_ret
  exact ⟨by simp, kn', H.out⟩
theorem gives_of {j : Jd} {ms : List CM} {i m : Nat} (hc : j.c.cls = ms.map CM.x) (hi : i < ms.length) : j.gives j.truth m i = ((ms[i].x.gives == (m : Int)) && ms[i].x.needs.all j.truth && !ms[i].x.bars.any j.truth) := by
  unfold Jd.gives
  rw [clAt_get hc hi]

theorem set4 {w : World} {g : Nat} {a b c d : Value} {t : TypeId} (h : w.heap[g]? = some (.cells [a, b, c, d].toArray t (0, 0))) (x0 x1 x2 x3 : Value) :
    ((((w.setCell ⟨g, 0, none⟩ x0).setCell ⟨g, 1, none⟩ x1).setCell ⟨g, 2, none⟩ x2).setCell ⟨g, 3, none⟩ x3).heap[g]? = some (.cells [x0, x1, x2, x3].toArray t (0, 0)) ∧
      Fr (fun k => k = g) w ((((w.setCell ⟨g, 0, none⟩ x0).setCell ⟨g, 1, none⟩ x1).setCell ⟨g, 2, none⟩ x2).setCell ⟨g, 3, none⟩ x3) := by
  constructor
  · have h1 := heap_setCell_same w g 0 _ t x0 h
    have h2 := heap_setCell_same _ g 1 _ t x1 h1
    have h3 := heap_setCell_same _ g 2 _ t x2 h2
    have h4 := heap_setCell_same _ g 3 _ t x3 h3
    rw [h4]
    simp
  · exact ((((Fr.refl (fun k => k = g) w).setCell (p := ⟨g, 0, none⟩) (fun _ => rfl) _).setCell (p := ⟨g, 1, none⟩) (fun _ => rfl) _).setCell (p := ⟨g, 2, none⟩) (fun _ => rfl) _).setCell (p := ⟨g, 3, none⟩) (fun _ => rfl) _
set_option maxRecDepth 100000 in
set_option maxHeartbeats 12800000 in
theorem find_of {ms : List CM} {j : Jd} {m : Nat} (hm : m ≤ 19) (ih : ∀ m', m' < m → SoAt ms j m') (K : Nat → Prop) (w : World) (J b : Nat) (cl rl fl fv gv : Value) (kn : Nat → Bool) (h : JW K w J b cl rl fl fv gv ms j kn) :
    Calls Try.prog 48 #[.pointer (some ⟨J, 0, none⟩), .int .i64 m] w (FindR w b j kn m) := by
  have IH := hid ih
  clear ih
  obtain ⟨a1, c1, rfl, _⟩ := h.rb.hc
  obtain ⟨a2, e2, rfl, _⟩ := h.rb.hr
  obtain ⟨a3, e3, rfl, hf1, hf2, _⟩ := h.rb.hf
  obtain ⟨a4, e4, hfv, _⟩ := h.hF
  obtain ⟨a5, e5, hgv, _⟩ := h.hG
  rw [nats_length] at hfv hgv
  subst hfv hgv
  have hlF := h.lF
  have hlG := h.lG
  have HJ : Hid (∀ X Y : Obj, JW K ((w.alloc X).alloc Y) J b (.slice a1 ms.length c1) (.slice a2 j.c.rps.length e2) (.slice a3 j.c.fcs.length e3) (.slice a4 j.F.length e4) (.slice a5 j.G.length e5) ms j kn) := hid (fun X Y => (h.alloc X).alloc Y)
  have j3 := row_cell (HJ.out (.cells #[.pointer (some ⟨J, 0, none⟩)] 78) (.cells #[.int .i64 0, .bool false, .int .i64 0, .int .i64 0] 63)).hJ 3
  have j2 := row_cell (HJ.out (.cells #[.pointer (some ⟨J, 0, none⟩)] 78) (.cells #[.int .i64 0, .bool false, .int .i64 0, .int .i64 0] 63)).hJ 2
  have j0 := row_cell (HJ.out (.cells #[.pointer (some ⟨J, 0, none⟩)] 78) (.cells #[.int .i64 0, .bool false, .int .i64 0, .int .i64 0] 63)).hJ 0
  have j4 := row_cell (HJ.out (.cells #[.pointer (some ⟨J, 0, none⟩)] 78) (.cells #[.int .i64 0, .bool false, .int .i64 0, .int .i64 0] 63)).hJ 4
  simp only [List.getElem?_cons_zero, List.getElem?_cons_succ] at j0 j2 j3 j4
  have hbw := h.map.lt
  have HM0 := hid h.map
  clear h
  go_enter Try.func48, Try.ntmps48
  go_wp2
  go_loopw [6, 16] (fun s6 s16 wr => ∃ k : Nat, k ≤ j.F.length ∧ s16 = .int .i64 k ∧ wr = (w.alloc (.cells #[.pointer (some ⟨J, 0, none⟩)] 78)).alloc (.cells #[.int .i64 0, .bool false, .int .i64 0, .int .i64 0] 63) ∧ Hid (∀ i (hi : i < k), (fcAt j.c (j.F[i]?.getD 0)).says ≠ m)) (fun _ s16 _ => j.F.length - (intOf s16).toNat)
  case atStart => exact ⟨0, Nat.zero_le _, rfl, rfl, hid (fun i hi => absurd hi (Nat.not_lt_zero _))⟩
  case round =>
    obtain ⟨k, hk, rfl, rfl, hA⟩ := hrel
    have HW := hid (HJ.out (.cells #[.pointer (some ⟨J, 0, none⟩)] 78) (.cells #[.int .i64 0, .bool false, .int .i64 0, .int .i64 0] 63))
    by_cases hlt : k < j.F.length
    · obtain ⟨bf, of_, rfl, _, _, hcf⟩ := reads_one HW.out.hF k (by rw [nats_length]; exact hlt)
      rw [nats_get _ _ hlt] at hcf
      have hin := HW.out.inF _ (List.getElem_mem hlt)
      have HG : Hid (j.F[k]?.getD 0 = j.F[k]) := hid (by simp [hlt])
      have HFF : Hid ((fcAt j.c j.F[k]).says = m → j.fd m = ⟨m, true, j.F[k], -1⟩) := hid (fun he => by
        unfold Jd.fd Jd.find
        rw [find_first (fun i => (fcAt j.c i).says == (m : Int)) j.F k hlt (by simpa using he) (fun i hi => by
          have := hA.out i hi
          rw [show j.F[i]?.getD 0 = j.F[i]'(Nat.lt_trans hi hlt) by simp [Nat.lt_trans hi hlt]] at this
          simpa using this)])
      generalize j.F[k] = i at hcf hin HG HFF
      obtain ⟨a3', e3', ee, _, _, h3⟩ := HW.out.rb.hf
      injection ee with ea _ eb
      subst ea eb
      obtain ⟨b3, o3, rfl, _, _, hx⟩ := h3 (by omega)
      have hs := hx i hin 1 _ rfl
      rw [fcAt_get hin] at hs
      clear hx h3
      cases hq : ((fcAt j.c i).says == (m : Int)) with
      | true =>
        have HE := hid (HFF.out (by simpa using hq))
        clear HFF HG
        generalize (fcAt j.c i).says = y at hs hq
        go_wp2
        refine bodyPost_ret (v := dval ⟨m, true, i, -1⟩) ?_ rfl ⟨by rw [HE.out], kn, HM0.out.fr (S := fun _ => False) (((Fr.refl _ _).alloc _).alloc _) (fun e => e), ?_, fun _ h => h, fun _ h => .inl h⟩
        · simp [results, show Try.f48.results = #[.cell 4 63] from rfl, loadVar, go_sem, Try.isAgg63, Try.sizeOf63, asAddr, Result.andThen, dval]
        · exact ((Fr.refl _ _).alloc _).alloc _
      | false =>
        have HNE : Hid ((fcAt j.c i).says ≠ m) := hid (by simpa using hq)
        generalize hy : (fcAt j.c i).says = y at hs hq
        have HY := hid hy
        clear hy HFF
        go_wp2
        go_roundw
        case rel => exact ⟨k + 1, by omega, by go_num, trivial, hid (fun i' hi' => by
          by_cases e : i' = k
          · rw [e, HG.out]; exact HNE.out
          · exact hA.out i' (by omega))⟩
        case measure => simp [intOf]; omega
    · obtain rfl : k = j.F.length := by omega
      clear hlt hk
      have HNF : Hid (j.F.find? (fun i => (fcAt j.c i).says == (m : Int)) = none) := hid (find_none _ _ (fun i hi => by
        have := hA.out i hi
        rw [show j.F[i]?.getD 0 = j.F[i] by simp [hi]] at this
        simpa using this))
      clear hA
      have HFN : Hid (∀ i, j.G.find? (j.gives j.truth m) = some i → j.fd m = ⟨m, true, -1, i⟩) := hid (fun i hi => by unfold Jd.fd Jd.find; rw [HNF.out]; dsimp only; rw [hi])
      have HF0 : Hid (j.G.find? (j.gives j.truth m) = none → j.fd m = ⟨m, false, -1, -1⟩) := hid (fun hi => by unfold Jd.fd Jd.find; rw [HNF.out]; dsimp only; rw [hi])
      clear HNF
      have HS4 : Hid (((w.alloc (.cells #[.pointer (some ⟨J, 0, none⟩)] 78)).alloc (.cells #[.int .i64 0, .bool false, .int .i64 0, .int .i64 0] 63)).heap[w.heap.size + 1]? = some (.cells [.int .i64 0, .bool false, .int .i64 0, .int .i64 0].toArray 63 (0, 0))) := hid (by have := heap_alloc_new (w.alloc (.cells #[.pointer (some ⟨J, 0, none⟩)] 78)) (.cells #[.int .i64 0, .bool false, .int .i64 0, .int .i64 0] 63); simpa using this)
      have HS2 : Hid (((w.alloc (.cells #[.pointer (some ⟨J, 0, none⟩)] 78)).alloc (.cells #[.int .i64 0, .bool false, .int .i64 0, .int .i64 0] 63)).heap[w.heap.size]? = some (.cells [.pointer (some ⟨J, 0, none⟩)].toArray 78 (0, 0))) := hid ((Below.heap_alloc _ _ _ (by simp)).trans (heap_alloc_new w _))
      have FW := hid (((Fr.refl (fun _ => False) w).alloc (.cells #[.pointer (some ⟨J, 0, none⟩)] 78)).alloc (.cells #[.int .i64 0, .bool false, .int .i64 0, .int .i64 0] 63))
      go_wp2
      obtain ⟨w2, hw2⟩ : ∃ w2, w2 = (w.alloc (.cells #[.pointer (some ⟨J, 0, none⟩)] 78)).alloc (.cells #[.int .i64 0, .bool false, .int .i64 0, .int .i64 0] 63) := ⟨_, rfl⟩
      rw [← hw2] at HS4 HS2 FW HW ⊢
      have HZ : Hid (w2.heap.size = w.heap.size + 2) := hid (by rw [hw2]; simp)
      clear HJ hw2 j0 j2 j3 j4
      go_loopw [8, 40] (fun s8 s40 wr => ∃ (k : Nat) (kn' : Nat → Bool), k ≤ j.G.length ∧ s40 = .int .i64 k ∧ Hid (Found wr b j kn') ∧ Hid (Fr (fun k => k = b) w2 wr) ∧ Hid ((∀ x, kn x = true → kn' x = true) ∧ (∀ x, kn' x = true → kn x = true ∨ x < m)) ∧ Hid (∀ i (hi : i < j.G.length), i < k → j.gives j.truth m j.G[i] = false)) (fun _ s40 _ => j.G.length - (intOf s40).toNat)
      case atStart => exact ⟨0, kn, Nat.zero_le _, rfl, hid HW.out.map, hid (Fr.refl _ _), hid ⟨fun _ h => h, fun _ h => .inl h⟩, hid (fun i _ hi => absurd hi (Nat.not_lt_zero _))⟩
      case round =>
        obtain ⟨k, kn', hk, rfl, hM, hF, hS, hA⟩ := hrel
        have hWr := hid (HW.out.fr hF.out hM.out)
        have z2 := HZ.out
        have z3 := hF.out.size
        have hR4 := hid ((hF.out.block (w.heap.size + 1) (by omega) (by omega)).trans HS4.out)
        have hR2 := hid ((hF.out.block w.heap.size (by omega) (by omega)).trans HS2.out)
        by_cases hlt : k < j.G.length
        · obtain ⟨bg, og, rfl, _, _, hcg⟩ := reads_one hWr.out.hG k (by rw [nats_length]; exact hlt)
          rw [nats_get _ _ hlt] at hcg
          have hin := hWr.out.inG _ (List.getElem_mem hlt)
          have HLS := hid (hWr.out.ok.less _ (List.getElem_mem hlt))
          have HGV := hid (gives_of (m := m) hWr.out.rb.cls hin)
          have HAK : Hid (∀ v, j.gives j.truth m j.G[k] = v → v = false → ∀ i (hi : i < j.G.length), i < k + 1 → j.gives j.truth m j.G[i] = false) := hid (fun v e1 e2 i hi hlt2 => by
            by_cases e : i = k
            · subst e; rw [e1, e2]
            · exact hA.out i hi (by omega))
          have HFF : Hid (j.gives j.truth m j.G[k] = true → j.fd m = ⟨m, true, -1, j.G[k]⟩) := hid (fun he => HFN.out _ (find_first _ j.G k hlt he (fun i hi => hA.out i (by omega) hi)))
          have HCL := hid (clAt_get hWr.out.rb.cls hin)
          generalize j.G[k] = i at hcg hin HLS HGV HAK HFF HCL
          have HLN := hid (hWr.out.ln _ (List.getElem_mem hin))
          have HNB := hid (hWr.out.rb.hn _ (List.getElem_mem hin))
          obtain ⟨a1', c1', ee, _, _, h3⟩ := hWr.out.rb.hc
          injection ee with ea _ eb
          subst ea eb
          obtain ⟨b3, o3, rfl, _, _, hx⟩ := h3 (by omega)
          have d0 := hx i hin 0 _ rfl
          have d1 := hx i hin 1 _ rfl
          have d2 := hx i hin 2 _ rfl
          have d3 := hx i hin 3 _ rfl
          have d4 := hx i hin 4 _ rfl
          have d5 := hx i hin 5 _ rfl
          rw [Nat.add_zero] at d0
          rw [HCL.out] at HLS
          clear hx h3 HCL
          generalize ms[i] = mc at d0 d1 d2 d3 d4 d5 HLN HNB HGV HLS
          obtain ⟨⟨xp, xf, xt, xn, xb, xg⟩, nv, bv⟩ := mc
          dsimp only at d0 d1 d2 d3 d4 d5 HLN HNB HGV HLS
          obtain ⟨⟨a8, c8, hnv, _⟩, a9, c9, hbv, _⟩ := HNB.out
          subst hnv hbv
          have e0 := row_cell hWr.out.hJ 0
          have r2 := row_cell hR2.out 0
          simp only [List.getElem?_cons_zero] at e0 r2
          cases hg : (xg == (m : Int)) with
          | false =>
            have HE := hid (HAK.out _ HGV.out (by rw [hg]; rfl))
            clear HAK HGV HFF
            go_wp2
            go_roundw
            case rel => exact ⟨k + 1, kn', by omega, by go_num, hid (hM.out.fr ((Fr.refl (fun _ => False) _).alloc _) (fun e => e)), hid (hF.out.alloc _), hS, hid (fun i hi hlt2 => HE.out i hi hlt2)⟩
            case measure => simp [intOf]; omega
          | true =>
            obtain rfl : xg = (m : Int) := by simpa using hg
            have hbl := hWr.out.map.lt
            have HWc := hid (hWr.out.alloc (.cells #[.int .i64 xp, .int .i64 xf, .int .i64 xt, .slice a8 xn.length c8, .slice a9 xb.length c9, .int .i64 m] 51))
            have FWc : Hid (Fr (fun _ => False) wr (wr.alloc (.cells #[.int .i64 xp, .int .i64 xf, .int .i64 xt, .slice a8 xn.length c8, .slice a9 xb.length c9, .int .i64 m] 51))) := hid ((Fr.refl _ _).alloc _)
            have HN9 : Hid ((wr.alloc (.cells #[.int .i64 xp, .int .i64 xf, .int .i64 xt, .slice a8 xn.length c8, .slice a9 xb.length c9, .int .i64 m] 51)).heap[wr.heap.size]? = some (.cells [.int .i64 xp, .int .i64 xf, .int .i64 xt, .slice a8 xn.length c8, .slice a9 xb.length c9, .int .i64 m].toArray 51 (0, 0))) := hid (heap_alloc_new wr _)
            have HS0 : Hid ((wr.alloc (.cells #[.int .i64 xp, .int .i64 xf, .int .i64 xt, .slice a8 xn.length c8, .slice a9 xb.length c9, .int .i64 m] 51)).heap.size = wr.heap.size + 1) := hid (by simp)
            generalize hWc : wr.alloc (.cells #[.int .i64 xp, .int .i64 xf, .int .i64 xt, .slice a8 xn.length c8, .slice a9 xb.length c9, .int .i64 m] 51) = Wc at HWc FWc HN9 HS0
            have HWE := hid hWc
            clear hWc
            have HB2 := hid ((FWc.out.block w.heap.size (by omega) (fun e => e)).trans hR2.out)
            have HB4 := hid ((FWc.out.block (w.heap.size + 1) (by omega) (fun e => e)).trans hR4.out)
            have HC1 : Hid (Calls Try.prog 56 #[.slice a8 xn.length c8, .func (.func 59) #[] #[.pointer (some ⟨w.heap.size, 0, none⟩)]] Wc (ScanR Wc b j kn' m (xn.any fun x => !j.truth x))) := hid (by
              refine scan HWc.out _ xn (K2 := K) (HNB.out.1.fr FWc.out (fun _ _ e => e)) hWr.out.kb (fun x hx => HLS.out.2.1 x hx) (by have := HLN.out.1; omega) 59 #[] #[.pointer (some ⟨w.heap.size, 0, none⟩)] enters59 (fun x => !j.truth x) ?_
              intro W' k1 m' hlt' hj' hf'
              exact closure59 ((hf'.cell (row_lt HB2.out) (by omega) 0).trans (row_cell HB2.out 0)) (IH.out m' hlt' K W' J b _ _ _ _ _ k1 hj'))
            have HC2 : Hid (∀ (W5 : World) (kn5 : Nat → Bool), Found W5 b j kn5 → Fr (fun k => k = b) Wc W5 → Calls Try.prog 56 #[.slice a9 xb.length c9, .func (.func 31) #[.pointer (some ⟨J, 0, none⟩)] #[]] W5 (ScanR W5 b j kn5 m (xb.any j.truth))) := hid (fun W5 kn5 hm5 hf5 => by
              have hj5 := HWc.out.fr hf5 hm5
              refine scan hj5 _ xb (K2 := K) ((HNB.out.2.fr FWc.out (fun _ _ e => e)).fr hf5 (fun k hk e => hWr.out.kb (by rw [← e]; exact hk))) hWr.out.kb (fun x hx => HLS.out.2.2 x hx) (by have := HLN.out.2; omega) 31 #[.pointer (some ⟨J, 0, none⟩)] #[] enters31 j.truth ?_
              intro W' k1 m' hlt' hj' hf'
              exact IH.out m' hlt' K W' J b _ _ _ _ _ k1 hj')
            have hany := any_not xn j.truth
            rw [hany] at HC1
            clear hany
            rw [hg] at HGV
            generalize xn.all j.truth = N at HC1 HGV
            generalize xb.any j.truth = B at HC2 HGV
            have A1 : String := "one"
            cases N with
            | false =>
              have HE := hid (HAK.out _ HGV.out (by simp))
              clear HAK HGV HFF HC2
              go_wp2_with (rw [HWE.out]; go_at_call 56; refine HC1.out.mono ?_; rintro e w5 ⟨rfl, kn5, m5, f5, s5, t5⟩; have M5 := hid m5; have F5 := hid f5; have S5 := hid s5; have T5 := hid t5; clear m5 f5 s5 t5)
              go_roundw
              case rel => exact ⟨k + 1, kn5, by omega, by go_num, M5, hid ((hF.out.then FWc.out (fun _ _ e => e.elim)).trans F5.out), hid ⟨fun x hx => S5.out x (hS.out.1 x hx), fun x hx => (T5.out x hx).elim (hS.out.2 x) .inr⟩, hid (fun i hi hlt2 => HE.out i hi hlt2)⟩
              case measure => simp [intOf]; omega
            | true =>
              cases B with
              | true =>
                have HE := hid (HAK.out _ HGV.out (by simp))
                clear HAK HGV HFF
                have z8 := HS0.out
                go_wp2_with (first | (rw [HWE.out]; clear A1; go_at_call 56; refine HC1.out.mono ?_; rintro e w5 ⟨rfl, kn5, m5, f5, s5, t5⟩; have x4 := (f5.cell (by omega : wr.heap.size < Wc.heap.size) (by omega) 4).trans (row_cell HN9.out 4); have x2 := (f5.cell (row_lt HB2.out) (by omega) 0).trans (row_cell HB2.out 0); simp only [List.getElem?_cons_zero, List.getElem?_cons_succ] at x2 x4; have M5 := hid m5; have F5 := hid f5; have S5 := hid s5; have T5 := hid t5; clear m5 f5 s5 t5) | (go_at_call 56; refine (HC2.out _ _ M5.out F5.out).mono ?_; rintro e w6 ⟨rfl, kn6, m6, f6, s6, t6⟩; have M6 := hid m6; have F6 := hid (F5.out.trans f6); have S6 : Hid (∀ x, kn x = true → kn6 x = true) := hid (fun x hx => s6 x (S5.out x (hS.out.1 x hx))); have T6 : Hid (∀ x, kn6 x = true → kn x = true ∨ x < m) := hid (fun x hx => (t6 x hx).elim (fun h => (T5.out x h).elim (hS.out.2 x) .inr) .inr); clear m6 f6 s6 t6 x4 x2))
                go_roundw
                case rel => exact ⟨k + 1, kn6, by omega, by go_num, M6, hid ((hF.out.then FWc.out (fun _ _ e => e.elim)).trans F6.out), hid ⟨S6.out, T6.out⟩, hid (fun i hi hlt2 => HE.out i hi hlt2)⟩
                case measure => simp [intOf]; omega
              | false =>
                have HE := hid (HFF.out (by rw [HGV.out]; rfl))
                clear HAK HGV HFF
                have z8 := HS0.out
                go_wp2_with (first | (rw [HWE.out]; clear A1; go_at_call 56; refine HC1.out.mono ?_; rintro e w5 ⟨rfl, kn5, m5, f5, s5, t5⟩; have x4 := (f5.cell (by omega : wr.heap.size < Wc.heap.size) (by omega) 4).trans (row_cell HN9.out 4); have x2 := (f5.cell (row_lt HB2.out) (by omega) 0).trans (row_cell HB2.out 0); simp only [List.getElem?_cons_zero, List.getElem?_cons_succ] at x2 x4; have M5 := hid m5; have F5 := hid f5; have S5 := hid s5; have T5 := hid t5; clear m5 f5 s5 t5) | (go_at_call 56; refine (HC2.out _ _ M5.out F5.out).mono ?_; rintro e w6 ⟨rfl, kn6, m6, f6, s6, t6⟩; have M6 := hid m6; have F6 := hid (F5.out.trans f6); have S6 : Hid (∀ x, kn x = true → kn6 x = true) := hid (fun x hx => s6 x (S5.out x (hS.out.1 x hx))); have T6 : Hid (∀ x, kn6 x = true → kn x = true ∨ x < m) := hid (fun x hx => (t6 x hx).elim (fun h => (T5.out x h).elim (hS.out.2 x) .inr) .inr); have B6 := (f6.block (w.heap.size + 1) (Nat.lt_of_lt_of_le (row_lt HB4.out) F5.out.size) (by omega)).trans ((F5.out.block (w.heap.size + 1) (row_lt HB4.out) (by omega)).trans HB4.out); have c60 := row_cell B6 0; have c61 := row_cell B6 1; have c62 := row_cell B6 2; have c63 := row_cell B6 3; have z60 := row_free B6 0; have z61 := row_free B6 1; have z62 := row_free B6 2; have z63 := row_free B6 3; simp only [List.getElem?_cons_zero, List.getElem?_cons_succ] at c60 c61 c62 c63; have HB6 := hid B6; clear B6 m6 f6 s6 t6 x4 x2))
                obtain ⟨r4, fr4⟩ := set4 HB6.out (.int .i64 m) (.bool true) (.int .i64 (-1)) (.int .i64 i)
                clear c60 c61 c62 c63 z60 z61 z62 z63
                generalize (((w6.setCell ⟨w.heap.size + 1, 0, none⟩ (.int .i64 m)).setCell ⟨w.heap.size + 1, 1, none⟩ (.bool true)).setCell ⟨w.heap.size + 1, 2, none⟩ (.int .i64 (-1))).setCell ⟨w.heap.size + 1, 3, none⟩ (.int .i64 i) = W9 at r4 fr4 ⊢
                have s0 := row_cell r4 0
                have s1 := row_cell r4 1
                have s2 := row_cell r4 2
                have s3 := row_cell r4 3
                simp only [List.getElem?_cons_zero, List.getElem?_cons_succ] at s0 s1 s2 s3
                refine bodyPost_ret (v := dval ⟨m, true, -1, i⟩) ?_ rfl ⟨by rw [HE.out], kn6, M6.out.fr fr4 (by omega), ?_, S6.out, T6.out⟩
                · simp [results, show Try.f48.results = #[.cell 4 63] from rfl, loadVar, go_sem, Try.isAgg63, Try.sizeOf63, asAddr, Result.andThen, dval, s0, s1, s2, s3]
                · exact ((((FW.out.non.trans hF.out).trans FWc.out.non).trans F6.out)).then fr4 (fun i hi e => by omega)
        · obtain rfl : k = j.G.length := by omega
          clear hlt hk
          have HE := hid (HF0.out (find_none _ _ (fun i hi => hA.out i hi hi)))
          clear HFN HF0 hA
          have c60 := row_cell hR4.out 0
          have c61 := row_cell hR4.out 1
          have c62 := row_cell hR4.out 2
          have c63 := row_cell hR4.out 3
          have z60 := row_free hR4.out 0
          have z61 := row_free hR4.out 1
          have z62 := row_free hR4.out 2
          have z63 := row_free hR4.out 3
          simp only [List.getElem?_cons_zero, List.getElem?_cons_succ] at c60 c61 c62 c63
          go_wp2
          obtain ⟨r4, fr4⟩ := set4 hR4.out (.int .i64 m) (.bool false) (.int .i64 (-1)) (.int .i64 (-1))
          clear c60 c61 c62 c63 z60 z61 z62 z63
          generalize (((wr.setCell ⟨w.heap.size + 1, 0, none⟩ (.int .i64 m)).setCell ⟨w.heap.size + 1, 1, none⟩ (.bool false)).setCell ⟨w.heap.size + 1, 2, none⟩ (.int .i64 (-1))).setCell ⟨w.heap.size + 1, 3, none⟩ (.int .i64 (-1)) = W9 at r4 fr4 ⊢
          have s0 := row_cell r4 0
          have s1 := row_cell r4 1
          have s2 := row_cell r4 2
          have s3 := row_cell r4 3
          simp only [List.getElem?_cons_zero, List.getElem?_cons_succ] at s0 s1 s2 s3
          refine bodyPost_ret (v := dval ⟨m, false, -1, -1⟩) ?_ rfl ⟨by rw [HE.out], kn', hM.out.fr fr4 (by omega), ?_, hS.out.1, hS.out.2⟩
          · simp [results, show Try.f48.results = #[.cell 4 63] from rfl, loadVar, go_sem, Try.isAgg63, Try.sizeOf63, asAddr, Result.andThen, dval, s0, s1, s2, s3]
          · exact (FW.out.non.trans hF.out).then fr4 (fun i hi e => by omega)
end Go.Proofs.Ytfalhljidnpmgaa
