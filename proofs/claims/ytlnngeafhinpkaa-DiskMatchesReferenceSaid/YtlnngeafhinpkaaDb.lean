/- Crash of the disk. No condition beside the sizes. -/
import Derived.Test.YtlnngeafhinpkaaDa
set_option linter.unusedVariables false
set_option linter.unusedSimpArgs false
namespace Go.Proofs.Ytlnngeafhinpkaa
open Go.RowKit

theorem crash_nil (kp : Value) (torn : Int) (w : World) : Calls Try.prog 25 #[.pointer none, kp, .int .i64 torn] w fun e w' => e = .returned (.int .i64 1) ∧ Fr (fun _ => False) w w' := by
  go_enter Try.func25, Try.ntmps25
  go_wp2
  go_ret
  exact ⟨rfl, (Fr.refl _ _).alloc _⟩

/-- The numbers that a crash is given lie in old memory, outside the disk. -/
def Keeps (w : World) (kp : Value) (keep : List Int) : Prop := Ints w.heap.size w kp keep

theorem own_view {w : World} {base : Nat} {v : Value} {xs : List Int} (h : w.ownsRow base 3 1 v xs.length (ints xs)) :
    ∃ g ad cap tl, v = .slice ad xs.length cap ∧ xs.length ≤ cap ∧ base ≤ g ∧ (0 < xs.length → ad = some ⟨g, 0, none⟩ ∧ w.heap[g]? = some (.cells (ints xs ++ tl).toArray 3 (0, 0))) := by
  by_cases hx : xs = []
  · subst hx
    rcases h.2 with ⟨rfl, _⟩ | ⟨g, cap, cur, rfl, _⟩
    · exact ⟨base, none, 0, [], rfl, by simp, Nat.le_refl _, fun h => by simp at h⟩
    · exact ⟨base, _, cap, [], rfl, by simp, Nat.le_refl _, fun h => by simp at h⟩
  · have hpos : 0 < xs.length := by
      cases xs with
      | nil => exact absurd rfl hx
      | cons x xs => simp
    obtain ⟨g, cap, rfl, hg1, hg2⟩ := h.form hpos
    obtain ⟨tl, hr, hb, hn, hlen, hm⟩ := own_row3 h
    exact ⟨g, _, cap, tl, rfl, hn, hb, fun _ => ⟨rfl, hr⟩⟩

/-- The order in which a crash goes, as it lies in memory behind the four calls. -/
structure Ordered (w : World) (B bd bv n : Nat) (pv : Value) (s : St) (os : List Int) (g : Nat) (ad : Option Addr) (w4 : World) : Prop where
  disk : IsDisk w4 B bd bv pv n s
  box : w4.cell? ⟨w.heap.size, 0, none⟩ = some (.pointer (some ⟨B, 0, none⟩))
  lb : w.heap.size < w4.heap.size
  fr : Fr (fun _ => False) w w4
  row : 0 < os.length → ad = some ⟨g, 0, none⟩ ∧ ∀ k, k < os.length → w4.cell? ⟨g, k, none⟩ = some (.int .i64 (os[k]?.getD 0))
  gn : w.heap.size + 1 < g

theorem mid {w w2 w3 : World} {B bd bv n : Nat} {a : Option Addr} {m c : Nat} {s : St} {X Y : Obj} (h : IsDisk w B bd bv (.slice a m c) n s) (hX : X = .cells #[.pointer (some ⟨B, 0, none⟩)] 23)
    (b2 : Below ((w.alloc X).alloc Y).heap.size ((w.alloc X).alloc Y) w2) (f3 : Fr (fun k => ((w.alloc X).alloc Y).heap.size ≤ k) w2 w3) :
    w3.cell? ⟨w.heap.size, 0, none⟩ = some (.pointer (some ⟨B, 0, none⟩)) ∧ w3.cell? ⟨B, 4, none⟩ = some (.slice a m c) := by
  have hsz : ((w.alloc X).alloc Y).heap.size = w.heap.size + 2 := by simp
  have f13 : Fr (fun k => w.heap.size + 2 ≤ k) ((w.alloc X).alloc Y) w3 := by
    have q2 : Fr (fun k => w.heap.size + 2 ≤ k) ((w.alloc X).alloc Y) w2 := by rw [← hsz]; exact Fr.of_below b2
    have q3 : Fr (fun k => w.heap.size + 2 ≤ k) w2 w3 := by rw [← hsz]; exact f3
    exact q2.trans q3
  have lB := h.lB
  constructor
  · have hb : ((w.alloc X).alloc Y).heap[w.heap.size]? = some X := (Below.heap_alloc _ _ _ (by simp)).trans (heap_alloc_new w X)
    have := (f13.block w.heap.size (by simp; omega) (by omega)).trans hb
    rw [hX] at this
    rw [cell_of_row _ _ _ _ _ _ this]
    rfl
  · have hb : ((w.alloc X).alloc Y).heap[B]? = w.heap[B]? := (Below.heap_alloc _ _ _ (by simp; omega)).trans (Below.heap_alloc _ _ _ lB)
    have := ((f13.block B (by simp; omega) (by omega)).trans hb).trans h.hB
    rw [row_cell this]
    rfl

theorem ordered {w w2 w3 w4 : World} {B bd bv n g cap : Nat} {a ad : Option Addr} {m c : Nat} {s : St} {X Y : Obj} {xs : List Int} {tl : List Value} {e : Ending} (h : IsDisk w B bd bv (.slice a m c) n s) (hX : X = .cells #[.pointer (some ⟨B, 0, none⟩)] 23)
    (b2 : Below ((w.alloc X).alloc Y).heap.size ((w.alloc X).alloc Y) w2) (f3 : Fr (fun k => ((w.alloc X).alloc Y).heap.size ≤ k) w2 w3) (hg : ((w.alloc X).alloc Y).heap.size ≤ g)
    (hd : Deleted m g xs.length cap ad xs tl w3 e w4) (hr : 0 < xs.length → ad = some ⟨g, 0, none⟩) : Ordered w B bd bv n (.slice a m c) s (good m xs) g ad w4 := by
  have f0 : Fr (fun _ => False) w ((w.alloc X).alloc Y) := ((Fr.refl _ _).alloc _).alloc _
  have hsz : ((w.alloc X).alloc Y).heap.size = w.heap.size + 2 := by simp
  obtain ⟨_, hrow, f4⟩ := hd
  have f14 : Fr (fun k => w.heap.size + 2 ≤ k) ((w.alloc X).alloc Y) w4 := by
    have q2 : Fr (fun k => w.heap.size + 2 ≤ k) ((w.alloc X).alloc Y) w2 := by rw [← hsz]; exact Fr.of_below b2
    have q3 : Fr (fun k => w.heap.size + 2 ≤ k) w2 w3 := by rw [← hsz]; exact f3
    exact (q2.trans q3).trans (f4.mono (fun k _ e => by rw [e.1]; omega))
  have f04 : Fr (fun _ => False) w w4 := f0.then f14 (fun i hi e => by omega)
  refine ⟨h.frame f04 (fun _ _ e => e), ?_, ?_, f04, ?_, by omega⟩
  · have hb : ((w.alloc X).alloc Y).heap[w.heap.size]? = some X := (Below.heap_alloc _ _ _ (by simp)).trans (heap_alloc_new w X)
    have := (f14.block w.heap.size (by simp; omega) (by omega)).trans hb
    rw [hX] at this
    rw [cell_of_row _ _ _ _ _ _ this]
    rfl
  · have := f14.size
    omega
  · intro hpos
    have hxp : 0 < xs.length := Nat.lt_of_lt_of_le hpos (List.length_filter_le _ _)
    refine ⟨hr hxp, fun k hk => ?_⟩
    obtain ⟨ys, h1, h2, h3⟩ := hrow hxp
    rw [List.take_length] at h2
    have hky : k < ys.length := by rw [h1]; exact Nat.lt_of_lt_of_le hk (List.length_filter_le _ _)
    rw [row_cell h3, List.getElem?_append_left (by rw [ints_length]; exact hky), ints_get _ _ hky]
    have : (ys.take (good m xs).length)[k]? = (good m xs)[k]? := by rw [h2]
    rw [List.getElem?_take_of_lt hk] at this
    rw [← this]
    simp [hky]

theorem crashed {wr w5 : World} {B bd bv n o : Nat} {pv : Value} {s : St} {D : Bs} {X : Obj} {str : ByteArray} (h : IsDisk wr B bd bv pv n { s with dur := D }) (f5 : Fr (fun k => k = bd) ((wr.alloc X).drewN 1) w5)
    (h5 : w5.heap[bd]? = some (.cells (bvs (put D o str.data.toList)).toArray 5 (0, 0))) (hfit : o + str.size ≤ n) :
    IsDisk w5 B bd bv pv n { s with dur := put D o str.data.toList } ∧ Fr (fun k => k = bd) wr w5 := by
  have hl : str.data.toList.length = str.size := by rw [Array.length_toList]; rfl
  exact ⟨IsDisk.dur' ((h.alloc X).drewN 1) f5 _ h5 (by rw [put_length _ _ _ (by rw [hl]; have := h.ld; simp only at this; omega)]; exact h.ld), (((Fr.refl _ _).alloc X).drewN 1).trans f5⟩

set_option maxRecDepth 100000 in
set_option maxHeartbeats 6400000 in
theorem crash_any {w : World} {B bd bv n : Nat} {pv : Value} {s : St} (h : IsDisk w B bd bv pv n s) (hf : Fits n s.pend) (hpl : s.pend.length ≤ 1000000) (kp : Value) (keep : List Int) (hk : Keeps w kp keep) (hkl : keep.length ≤ 1000000) (torn : Int) (ht1 : -9223372036854775808 ≤ torn) (ht2 : torn ≤ 9223372036854775807) :
    Calls Try.prog 25 #[.pointer (some ⟨B, 0, none⟩), kp, .int .i64 torn] w (Did w B bd bv pv n (.int .i64 0) (crashS s keep torn)) := by
  have H := hid h
  clear h
  have HF := hid hf
  clear hf
  obtain ⟨a, c, rfl, hmc⟩ := H.out.shape
  obtain ⟨ka, kc, rfl, hki⟩ := hk
  have HK : Hid (∀ X Y : Obj, Ints w.heap.size ((w.alloc X).alloc Y) (.slice ka keep.length kc) keep) := fun X Y => Ints.below (((Below.refl _ _).alloc (Nat.le_refl _) _).alloc (by simp) _) ⟨ka, kc, rfl, hki⟩
  clear hki
  have HC : Hid (∀ (X : Obj) (v : Value) (t : TypeId), ((w.alloc X).alloc (.cells #[v] t)).cell? ⟨w.heap.size + 1, 0, none⟩ = some v) := fun X v t => by
    have := heap_alloc_new (w.alloc X) (.cells #[v] t)
    rw [World.size_alloc] at this
    rw [cell_of_row _ _ _ _ _ _ this]
    rfl
  have hll : (keep.mergeSort fun x y => decide (x ≤ y)).length = keep.length := List.length_mergeSort _
  have HLL := hid hll
  clear hll
  have lB := H.out.lB
  go_enter Try.func25, Try.ntmps25
  go_wp2_with (first | (go_at_call 40; refine (values_any _ _ _ _).mono ?_; rintro e w1 ⟨rfl, rfl⟩) | (go_at_call 39; refine (sorted_any (w.heap.size + 1) w.heap.size _ keep hkl _ (by simp) (by simp; omega) (HC.out _ _ _) (HK.out _ _)).mono ?_; rintro e w2 ⟨v2, rfl, o2, nil2, b2⟩; have O2 := hid o2; clear o2 nil2) | (go_at_call 38; refine (compact_any O2.out (by rw [HLL.out]; exact hkl)).mono ?_; rintro e w3 ⟨v3, rfl, o3, f3⟩; obtain ⟨g, ad, cap, tl, rfl, hv1, hv2, hv3⟩ := own_view o3; clear o3 O2))
  have hM := mid H.out rfl b2 f3
  have hsz2 : ∀ X Y : Obj, ((w.alloc X).alloc Y).heap.size = w.heap.size + 2 := fun X Y => by simp
  rw [hsz2] at hv2
  have hol : (Lib.compact (keep.mergeSort fun x y => decide (x ≤ y))).length ≤ 1000000 := Nat.le_trans (Lib.compact_length_le _) (by rw [HLL.out]; exact hkl)
  refine (delete_any w3 w.heap.size B s.pend.length c g _ cap a ad _ tl hM.1 hM.2 hol (Nat.le_refl _) hv1 hv3 (by omega) (by omega)).mono ?_
  intro e w4 hd
  have ho := ordered H.out rfl b2 f3 (by rw [hsz2]; exact hv2) hd (fun h => (hv3 h).1)
  have he := hd.1
  clear hd
  subst he
  rw [List.take_length]
  change Ordered w B bd bv n _ s (ordS s.pend.length keep) g ad w4 at ho
  clear hM hv3 f3 b2 hsz2
  have hol2 : (ordS s.pend.length keep).length ≤ 1000000 := Nat.le_trans (List.length_filter_le _ _) hol
  have hoc : (ordS s.pend.length keep).length ≤ cap := Nat.le_trans (List.length_filter_le _ _) hv1
  have hin := good_in s.pend.length (Lib.compact (keep.mergeSort fun x y => decide (x ≤ y)))
  change ∀ x ∈ ordS s.pend.length keep, _ at hin
  have e0 : (good s.pend.length (Lib.compact (keep.mergeSort fun x y => decide (x ≤ y)))) = ordS s.pend.length keep := rfl
  rw [e0]
  clear e0 hol hv1
  have hcr : crashS s keep torn = { off := false, left := 0, dur := apTo s.pend torn (ordS s.pend.length keep) s.dur (ordS s.pend.length keep).length, vis := apTo s.pend torn (ordS s.pend.length keep) s.dur (ordS s.pend.length keep).length, pend := [] } := rfl
  generalize crashS s keep torn = cs at *
  generalize ordS s.pend.length keep = os at *
  subst hcr
  clear HK HC HLL
  have HO := hid ho
  clear ho
  have HIN := hid hin
  clear hin
  go_wp2
  go_loopw [8, 9, 10, 22] (fun _ _ _ i wr => ∃ k : Nat, k ≤ os.length ∧ i = .int .i64 k ∧ Hid (IsDisk wr B bd bv (.slice a s.pend.length c) n { s with dur := apTo s.pend torn os s.dur k }) ∧ Fr (fun k => k = bd) w4 wr) (fun _ _ _ i _ => os.length - (intOf i).toNat)
  case atStart => exact ⟨0, Nat.zero_le _, rfl, HO.out.disk, Fr.refl _ _⟩
  case round =>
    obtain ⟨k, hk, rfl, hD, hfr⟩ := hrel
    have lbd := H.out.ld'
    have hbox : wr.cell? ⟨w.heap.size, 0, none⟩ = some (.pointer (some ⟨B, 0, none⟩)) := (World.cell?_of_block (hfr.block w.heap.size HO.out.lb (by omega))).trans HO.out.box
    have hsz := hfr.size
    have hlb := HO.out.lb
    by_cases hlt : k < os.length
    · obtain ⟨had, hcs⟩ := HO.out.row (by omega)
      subst had
      have hxin := HIN.out (os[k]?.getD 0) (by simp [hlt])
      have hck := hcs k hlt
      have hgk : wr.cell? ⟨g, k, none⟩ = some (.int .i64 (os[k]?.getD 0)) := (World.cell?_of_block (hfr.block g (World.block_lt_of_cell? _ _ hck) (by omega))).trans hck
      clear hck hcs
      have hap : apTo s.pend torn os s.dur (k + 1) = put (apTo s.pend torn os s.dur k) (s.pend[(os[k]?.getD 0).toNat]?.getD (0, ByteArray.empty)).1 (tornS os.length k torn (s.pend[(os[k]?.getD 0).toNat]?.getD (0, ByteArray.empty)).2).data.toList := rfl
      have HAP := hid hap
      clear hap
      generalize os[k]?.getD 0 = x at hxin hgk HAP
      obtain ⟨hx0, hx1⟩ := hxin
      obtain ⟨i, rfl⟩ := Int.eq_ofNat_of_zero_le hx0
      have hil : i < s.pend.length := by omega
      have hpe : s.pend[((i : Nat) : Int).toNat]?.getD (0, ByteArray.empty) = s.pend[i] := by simp [hil]
      rw [hpe] at HAP
      have hfit := HF.out s.pend[i] (List.getElem_mem hil)
      obtain ⟨hp0, hp1⟩ := pcells_get s.pend i hil
      obtain ⟨p, cap', he, _, _⟩ := hD.out.hp.form (by simp; omega)
      injection he with he1 he2 he3
      subst he1
      have q0 : wr.cell? ⟨p, i * 2, none⟩ = some (.int .i64 s.pend[i].1) := by
        have := hD.out.hp.cells (g := p) rfl (i * 2) _ hp0
        rwa [show (⟨p, 0, none⟩ : Addr).add (i * 2) = ⟨p, i * 2, none⟩ by unfold Addr.add; split <;> simp_all] at this
      have q1 : wr.cell? ⟨p, i * 2 + 1, none⟩ = some (.string s.pend[i].2) := by
        have := hD.out.hp.cells (g := p) rfl (i * 2 + 1) _ hp1
        rwa [show (⟨p, 0, none⟩ : Addr).add (i * 2 + 1) = ⟨p, i * 2 + 1, none⟩ by unfold Addr.add; split <;> simp_all] at this
      have d4 := hD.out.c4
      have d2 := hD.out.c2
      clear hp0 hp1 hpe
      generalize s.pend[i] = pi at q0 q1 hfit HAP
      obtain ⟨o, str⟩ := pi
      dsimp only at q0 q1 hfit HAP
      have n2 := hD.out.n2
      have hlw : w.heap.size < wr.heap.size := by omega
      have hBw : B < wr.heap.size := hD.out.lB
      have HFIT := hid hfit
      have hz := tornS_size os.length k torn str
      have HZ := hid hz
      clear hz hfit
      by_cases hlast : (k : Int) = (os.length : Int) - 1 ∧ 0 ≤ torn
      · obtain ⟨hla, htn⟩ := hlast
        have hl1 : ((k : Int) == (os.length : Int) - 1) = true := by simp [hla]
        have ht : tornS os.length k torn str = str.extract 0 (min torn str.size).toNat := by unfold tornS; rw [if_pos ⟨hla, htn⟩]
        rw [ht] at HAP HZ
        have HLA := hid hla
        clear ht hla
        go_wp2
        go_region_with (go_at_call 35; refine (onto_any _ bd o n _ (apTo s.pend torn os s.dur k) ((hD.out.alloc _).drewN 1).hd hD.out.ld n2 (Nat.le_trans (Nat.add_le_add_left HZ.out _) HFIT.out)).mono ?_; rintro e w5 ⟨rfl, h5, f5⟩)
        all_goals
          obtain ⟨h6, f6⟩ := crashed hD.out f5 h5 (Nat.le_trans (Nat.add_le_add_left HZ.out _) HFIT.out)
          rw [← HAP.out] at h6
          have H6 := hid h6
          clear h6 h5 f5 hgk q0 q1 d4 d2 hbox
          go_wp2
          go_roundw
          case rel => exact ⟨k + 1, by omega, by go_num, H6, hfr.trans f6⟩
          case measure => simp [intOf]; omega
      · have ht : tornS os.length k torn str = str := by unfold tornS; rw [if_neg hlast]
        rw [ht] at HAP HZ
        have HLA := hid hlast
        clear ht hlast
        by_cases hla : (k : Int) = (os.length : Int) - 1
        · have hl1 : ((k : Int) == (os.length : Int) - 1) = true := by simp [hla]
          have htn : torn < 0 := by have := HLA.out; omega
          have HLB := hid hla
          clear hla
          go_wp2
          go_region_with (go_at_call 35; refine (onto_any _ bd o n str (apTo s.pend torn os s.dur k) ((hD.out.alloc _).drewN 1).hd hD.out.ld n2 HFIT.out).mono ?_; rintro e w5 ⟨rfl, h5, f5⟩)
          all_goals
            obtain ⟨h6, f6⟩ := crashed hD.out f5 h5 HFIT.out
            rw [← HAP.out] at h6
            have H6 := hid h6
            clear h6 h5 f5 hgk q0 q1 d4 d2 hbox
            go_wp2
            go_roundw
            case rel => exact ⟨k + 1, by omega, by go_num, H6, hfr.trans f6⟩
            case measure => simp [intOf]; omega
        · have hl1 : ((k : Int) == (os.length : Int) - 1) = false := by simp [hla]
          have HLB := hid hla
          clear hla
          go_wp2
          go_region_with (go_at_call 35; refine (onto_any _ bd o n str (apTo s.pend torn os s.dur k) ((hD.out.alloc _).drewN 1).hd hD.out.ld n2 HFIT.out).mono ?_; rintro e w5 ⟨rfl, h5, f5⟩)
          all_goals
            obtain ⟨h6, f6⟩ := crashed hD.out f5 h5 HFIT.out
            rw [← HAP.out] at h6
            have H6 := hid h6
            clear h6 h5 f5 hgk q0 q1 d4 d2 hbox
            go_wp2
            go_roundw
            case rel => exact ⟨k + 1, by omega, by go_num, H6, hfr.trans f6⟩
            case measure => simp [intOf]; omega
    · obtain rfl : k = os.length := by omega
      have d2 := hD.out.c2
      have d3 := hD.out.c3
      clear hlt
      have hBw : B < wr.heap.size := hD.out.lB
      go_wp2
      refine still_tail 9 (by kernel_rfl) (by kernel_rfl) ?_
      simp only [List.take_succ_cons, List.take_zero, List.drop_succ_cons, List.drop_zero]
      repeat still_step
      refine wpStill_nil ?_
      go_wp2_with (go_at_call 37; refine (settle_crash (hD.out.drewN 1)).mono ?_; rintro e w5 ⟨rfl, ⟨pv', h5, p5⟩, f5⟩; have hb5 : w5.cell? ⟨w.heap.size, 0, none⟩ = some (.pointer (some ⟨B, 0, none⟩)) := (World.cell?_of_block (f5.block w.heap.size (by show _ < wr.heap.size; omega) (by have h1 := H.out.lB; have h2 := H.out.ld'; have h3 := H.out.lv'; have h4 := H.out.lp; rintro (e | e | e | e); omega; omega; omega; have := h4 _ e; omega))).trans hbox; have c0 := h5.c0; have c1 := h5.c1; have f0 := h5.fr 0; have f1 := h5.fr 1; have H5 := hid h5; clear h5 hbox d2 d3)
      go_ret
      obtain ⟨h6, f6⟩ := H5.out.power false 0
      refine ⟨rfl, ⟨pv', h6, .inl p5⟩, ?_⟩
      have q1 : Fr (Foot B bd bv (.slice a s.pend.length c)) w w4 := HO.out.fr.mono (fun _ _ e => e.elim)
      have q2 : Fr (Foot B bd bv (.slice a s.pend.length c)) w4 wr := hfr.mono (fun _ _ e => .inr (.inl e))
      have q3 : Fr (Foot B bd bv (.slice a s.pend.length c)) wr w5 := ((Fr.refl _ wr).drewN 1).trans f5
      exact ((q1.trans q2).trans q3).trans (f6.mono (fun _ _ e => .inl e))
end Go.Proofs.Ytlnngeafhinpkaa
