/- Crash of the reference disk: the walk. No condition beside the sizes. -/
import Derived.Test.YtlnngeafhinpkaaJ5
set_option linter.unusedVariables false
set_option linter.unusedSimpArgs false
namespace Go.Proofs.Ytlnngeafhinpkaa
open Go.RowKit

theorem IsRef.far {w : World} {R n g c : Nat} {pv : Value} {s : St} (h : IsRef w R (.slice (some ⟨g, 0, none⟩) n c) pv n s) {base m : Nat} {v : Value} {xs : List Value} (ho : w.ownsRow base 80 2 v m xs) (i : Nat) (hi : v.ownBlock = some i) : i ≠ g := by
  rintro rfl
  obtain ⟨y, hy⟩ := own_block h.hd (k := i) rfl
  exact own_ne ho hy (by decide) hi

set_option maxRecDepth 100000 in
set_option maxHeartbeats 6400000 in
theorem rcrash_any {w : World} {R n : Nat} {dv pv : Value} {s : St} (h : IsRef w R dv pv n s) (hpl : s.pend.length ≤ 1000000) (kp : Value) (keep : List Int) (hk : Keeps w kp keep) (hkl : keep.length ≤ 1000000) (torn : Int) (ht1 : -9223372036854775808 ≤ torn) (ht2 : torn ≤ 9223372036854775807) :
    Calls Try.prog 33 #[.pointer (some ⟨R, 0, none⟩), kp, .int .i64 torn] w (RDid w R dv pv n (.tuple #[]) (crashS s keep torn)) := by
  have n2 := h.n2
  obtain ⟨g, c, rfl, hg⟩ := h.dform
  obtain ⟨pa, pc, rfl, hpc⟩ := h.pform
  have H := hid h
  have HK := hid hk
  clear h hg hk
  have HLE := hid (kept_le s.pend keep)
  go_enter Try.func33, Try.ntmps33
  go_wp2
  go_loopw [6, 7] (fun kv i wr => ∃ (k : Nat) (ad : Option Addr) (cc : Nat), k ≤ s.pend.length ∧ i = .int .i64 k ∧ kv = .slice ad (kept s.pend keep k).length cc ∧ Hid (wr.ownsRow w.heap.size 80 2 (.slice ad (kept s.pend keep k).length cc) (kept s.pend keep k).length (pcells (kept s.pend keep k))) ∧ Hid (Fr (fun _ => False) w wr)) (fun _ i _ => s.pend.length - (intOf i).toNat)
  case atStart => exact ⟨0, none, 0, Nat.zero_le _, rfl, rfl, hid (World.ownsRow_nil _ _ _ _), hid (Fr.refl _ _)⟩
  case round =>
    obtain ⟨k, ad, cc, hk, rfl, rfl, hO, hF⟩ := hrel
    have HR := hid (H.out.frame hF.out (fun _ _ h => h))
    have c1 := HR.out.c1
    have hkl2 := HLE.out k
    by_cases hlt : k < s.pend.length
    · obtain ⟨g2, rfl, d0, d1⟩ := HR.out.at k hlt
      have HT : Hid (keep.contains (k : Int) = true → kept s.pend keep (k + 1) = kept s.pend keep k ++ [s.pend[k]]) := hid (fun h => kept_true s.pend keep k hlt h)
      have HN : Hid (keep.contains (k : Int) = false → kept s.pend keep (k + 1) = kept s.pend keep k) := hid (fun h => kept_false s.pend keep k h)
      generalize s.pend[k] = x at d0 d1 HT
      obtain ⟨xo, xs⟩ := x
      dsimp only at d0 d1 HT
      have HKR := hid (keeps_fr HK.out hF.out (fun _ h => h))
      have HC := hid (has_any wr kp keep HKR.out hkl (k : Int))
      clear HKR HR
      cases hkx : keep.contains (k : Int) with
      | true =>
        have HE := hid (HT.out hkx)
        rw [hkx] at HC
        have hb2 := hF.out.size
        clear HT HN hkx
        go_wp2_with (first | (go_at_call 43; refine (HC.out).mono ?_; rintro e w' ⟨rfl, rfl⟩) | (refine append_change hO.out hb2 (by omega) (xo, xs) rfl (.tmp 22) (.tmp 30) rfl (by rfl) (by rfl) (by rfl) ?_; intro g3 cap3 w1 hown1 f1 hv1; rw [← HE.out] at hown1; have H1 := hid hown1; have F1 := hid f1; clear hown1 f1 hv1))
        go_roundw
        case rel => exact ⟨k + 1, some ⟨g3, 0, none⟩, cap3, by omega, by go_num, by rw [HE.out, List.length_append]; rfl, hid (by rw [HE.out, List.length_append] at *; exact H1.out), hid (hF.out.then F1.out (fun i hi e => by have := (own_base hO.out i e).1; omega))⟩
        case measure => simp [intOf]; omega
      | false =>
        have HE := hid (HN.out hkx)
        rw [hkx] at HC
        clear HT HN hkx
        go_wp2_with (go_at_call 43; refine (HC.out).mono ?_; rintro e w' ⟨rfl, rfl⟩)
        go_roundw
        case rel => exact ⟨k + 1, ad, cc, by omega, by go_num, by rw [HE.out], hid (by rw [HE.out]; exact hO.out), hF⟩
        case measure => simp [intOf]; omega
    · obtain rfl : k = s.pend.length := by omega
      clear hlt hk
      obtain ⟨A, hA0, hA1, hA2, hcr⟩ := kept_view s keep torn H.out.ld H.out.fit
      have hkf := kept_fits H.out.fit keep
      clear HLE
      have hl0 : Hid (IsRef wr R (.slice (some ⟨g, 0, none⟩) n c) (.slice pa s.pend.length pc) n { s with dur := A 0 }) := hid (by rw [hA0]; exact HR.out)
      generalize kept s.pend keep s.pend.length = L at *
      have HA1 := hid hA1
      have HA2 := hid hA2
      have HKF := hid hkf
      have HCR := hid hcr
      clear hA0 hA1 hA2 hkf HR hcr
      go_wp2
      go_loopw [8, 9] (fun i sv wr2 => ∃ k : Nat, k ≤ L.length ∧ i = .int .i64 k ∧ Hid (IsRef wr2 R (.slice (some ⟨g, 0, none⟩) n c) (.slice pa s.pend.length pc) n { s with dur := A k }) ∧ Hid (wr2.ownsRow w.heap.size 80 2 (.slice ad L.length cc) L.length (pcells L)) ∧ Hid (Fr (fun k => k = g) w wr2)) (fun i _ _ => L.length - (intOf i).toNat)
      case atStart => exact ⟨0, Nat.zero_le _, rfl, hl0, hO, hid hF.out.none⟩
      case round =>
        obtain ⟨k, hk, rfl, hD, hO2, hF2⟩ := hrel
        have c0 := hD.out.c0
        have c1 := hD.out.c1
        have n1 := hD.out.n1
        by_cases hlt : k < L.length
        · obtain ⟨g2, rfl, d0, d1⟩ := own_at80 hO2.out k hlt
          have HP := hid (HA1.out k hlt)
          have hfit := HKF.out L[k] (List.getElem_mem hlt)
          have hsz : L[k].2.size ≤ n := by omega
          have HAK := hid (HA2.out k hk)
          generalize L[k] = x at d0 d1 hfit HP hsz
          obtain ⟨xo, xs⟩ := x
          dsimp only at d0 d1 hfit HP hsz
          have HC : Hid (∀ q str, xo + str.size ≤ n → Calls Try.prog 44 #[.slice (some ⟨g, 0, none⟩) n c, .int .i64 xo, .string str] (wr.drewN q) fun e w' => e = .returned (.tuple #[]) ∧ w'.ownsRow 0 5 1 (.slice (some ⟨g, 0, none⟩) n c) n (bvs (put (A k) xo str.data.toList)) ∧ Fr (fun k => k = g) (wr.drewN q) w') :=
            hid (fun q str hs => apply_any (wr.drewN q) 0 g n c xo _ str (own_kept hD.out.hd (fun _ _ => rfl)) HAK.out n2 hs)
          by_cases hlast : k + 1 = L.length
          · have hb1 : ((k : Int) == (L.length : Int) - 1) = true := by simp; omega
            by_cases hneg : torn < 0
            · have HSZ := hid hfit
              clear hfit
              go_wp2
              refine still_tail 10 (by kernel_rfl) (by kernel_rfl) ?_
              simp only [List.take_succ_cons, List.take_zero, List.drop_succ_cons, List.drop_zero]
              repeat still_step
              refine wpStill_nil ?_
              go_wp2_with (go_at_call 44; refine (HC.out 1 xs HSZ.out).mono ?_; rintro e w2 ⟨rfl, h2, f2⟩; have HE := HP.out; rw [torn_neg _ _ _ _ hneg] at HE; rw [← HE] at h2; have H2 := hid h2; have F2 := hid f2; clear h2 f2 HE)
              go_roundw
              case rel => exact ⟨k + 1, by omega, by go_num, hid ((hD.out.drewN 1).dur' F2.out _ H2.out (HA2.out _ (by omega))), hid (own_kept hO2.out (fun i hi => F2.out.block i (own_base hO2.out i hi).2 (fun e => hD.out.far hO2.out i hi e))), hid ((hF2.out.drewN 1).trans F2.out)⟩
              case measure => simp [intOf]; omega
            · by_cases hlong : (xs.size : Int) ≤ torn
              · have HSZ := hid hfit
                clear hfit
                go_wp2
                refine still_tail 10 (by kernel_rfl) (by kernel_rfl) ?_
                simp only [List.take_succ_cons, List.take_zero, List.drop_succ_cons, List.drop_zero]
                repeat still_step
                refine wpStill_nil ?_
                go_wp2_with (go_at_call 44; refine (HC.out 1 xs HSZ.out).mono ?_; rintro e w2 ⟨rfl, h2, f2⟩; have HE := HP.out; rw [torn_long _ _ _ _ hlong] at HE; rw [← HE] at h2; have H2 := hid h2; have F2 := hid f2; clear h2 f2 HE)
                go_roundw
                case rel => exact ⟨k + 1, by omega, by go_num, hid ((hD.out.drewN 1).dur' F2.out _ H2.out (HA2.out _ (by omega))), hid (own_kept hO2.out (fun i hi => F2.out.block i (own_base hO2.out i hi).2 (fun e => hD.out.far hO2.out i hi e))), hid ((hF2.out.drewN 1).trans F2.out)⟩
                case measure => simp [intOf]; omega
              · obtain ⟨t, rfl⟩ := Int.eq_ofNat_of_zero_le (show 0 ≤ torn by omega)
                have ht : t < xs.size := by omega
                have HSZ : Hid (xo + (xs.extract 0 t).size ≤ n) := hid (by rw [ByteArray.size_extract]; omega)
                clear hfit
                go_wp2
                refine still_tail 10 (by kernel_rfl) (by kernel_rfl) ?_
                simp only [List.take_succ_cons, List.take_zero, List.drop_succ_cons, List.drop_zero]
                repeat still_step
                refine wpStill_nil ?_
                go_wp2_with (go_at_call 44; refine (HC.out 1 (xs.extract 0 t) HSZ.out).mono ?_; rintro e w2 ⟨rfl, h2, f2⟩; have HE := HP.out; rw [torn_yes _ _ _ _ hlast ht] at HE; rw [← HE] at h2; have H2 := hid h2; have F2 := hid f2; clear h2 f2 HE)
                go_roundw
                case rel => exact ⟨k + 1, by omega, by go_num, hid ((hD.out.drewN 1).dur' F2.out _ H2.out (HA2.out _ (by omega))), hid (own_kept hO2.out (fun i hi => F2.out.block i (own_base hO2.out i hi).2 (fun e => hD.out.far hO2.out i hi e))), hid ((hF2.out.drewN 1).trans F2.out)⟩
                case measure => simp [intOf]; omega
          · have hb1 : ((k : Int) == (L.length : Int) - 1) = false := by simp; omega
            have HSZ := hid hfit
            clear hfit
            go_wp2
            refine still_tail 10 (by kernel_rfl) (by kernel_rfl) ?_
            simp only [List.take_succ_cons, List.take_zero, List.drop_succ_cons, List.drop_zero]
            repeat still_step
            refine wpStill_nil ?_
            go_wp2_with (go_at_call 44; refine (HC.out 1 xs HSZ.out).mono ?_; rintro e w2 ⟨rfl, h2, f2⟩; have HE := HP.out; rw [torn_last _ _ _ _ hlast] at HE; rw [← HE] at h2; have H2 := hid h2; have F2 := hid f2; clear h2 f2 HE)
            go_roundw
            case rel => exact ⟨k + 1, by omega, by go_num, hid ((hD.out.drewN 1).dur' F2.out _ H2.out (HA2.out _ (by omega))), hid (own_kept hO2.out (fun i hi => F2.out.block i (own_base hO2.out i hi).2 (fun e => hD.out.far hO2.out i hi e))), hid ((hF2.out.drewN 1).trans F2.out)⟩
            case measure => simp [intOf]; omega
        · obtain rfl : k = L.length := by omega
          clear hlt
          have h1 := hD.out.set1nil
          have h2 := h1.set2 false
          have h3 := h2.set3 0
          have f1 := hD.out.fz 1
          have e2 := h1.c2
          have f2 := h1.fz 2
          have e3 := h2.c3
          have f3 := h2.fz 3
          have H3 := hid h3
          clear h1 h2 h3
          go_wp2
          go_end0
          rw [HCR.out]
          refine ⟨rfl, ⟨_, _, H3.out.vis (A L.length), ?_⟩, ?_⟩
          · rintro k (e | e | e)
            · exact .inl (.inl e)
            · exact .inl (.inr (.inl e))
            · simp [Value.ownBlock] at e
          · refine (((Fr.set1 ?_ (.inl rfl) _ _).set1 (.inl rfl) _ _).set1 (.inl rfl) _ _)
            exact hF2.out.mono (fun i _ e => .inr (.inl (by rw [e]; rfl)))
end Go.Proofs.Ytlnngeafhinpkaa
