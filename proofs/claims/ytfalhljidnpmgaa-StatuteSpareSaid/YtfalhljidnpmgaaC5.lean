/- bits of the statements. No condition beside the bounds. -/
import Derived.Test.YtfalhljidnpmgaaC4
set_option linter.unusedVariables false
set_option linter.unusedSimpArgs false
namespace Go.Proofs.Ytfalhljidnpmgaa
open Go.RowKit Go.Proofs.Statute Go.Maps

def bitsAt (x : Nat) : Nat → List Int
  | 0 => []
  | k + 1 => if (bitsAt x k).length < 3 ∧ x / 2 ^ k % 2 = 1 then bitsAt x k ++ [(k : Int)] else bitsAt x k
theorem bitsAt_le (x : Nat) : ∀ k, (bitsAt x k).length ≤ 3
  | 0 => by simp [bitsAt]
  | k + 1 => by
    have := bitsAt_le x k
    unfold bitsAt
    split
    · simp; omega
    · exact this
theorem bitsAt_stop (x : Nat) (k : Nat) (h : (bitsAt x k).length = 3) : ∀ m, bitsAt x (k + m) = bitsAt x k
  | 0 => rfl
  | m + 1 => by
    have ih := bitsAt_stop x k h m
    show (if (bitsAt x (k + m)).length < 3 ∧ x / 2 ^ (k + m) % 2 = 1 then bitsAt x (k + m) ++ [((k + m : Nat) : Int)] else bitsAt x (k + m)) = _
    rw [ih, if_neg (by omega)]
theorem bit_eq (x k : Nat) : (((x : Int) / 2 ^ k).tmod 2 == 1) = decide (x / 2 ^ k % 2 = 1) := by
  have e : ((x : Int) / 2 ^ k) = ((x / 2 ^ k : Nat) : Int) := by simp
  rw [e]
  generalize x / 2 ^ k = y
  rw [Int.tmod_eq_emod_of_nonneg (by omega), Bool.eq_iff_iff]
  simp only [beq_iff_eq, decide_eq_true_eq]
  omega
/-- append(l, x) on a row of numbers of one's own. -/
theorem append_num {w : World} {base n : Nat} {v : Value} {xs : List Int} (h : w.ownsRow base 3 1 v n (ints xs)) (hb : base ≤ w.heap.size) (hk : n ≤ 1000000) (x : Int)
    {ops : Array Oper} {rest : List Oper} {o : Oper} {a : Act} {Q : Exit → Act → World → Prop} (hgd : o.guard = none) (s y : Operand) (ho : o.op = .call { callee := .builtin .append, args := #[s, y], argTypes := #[49, 49] })
    {W : World} (hW : W = w.alloc (.cells #[.int .i64 x] 3)) (hs : a.eval s = v) (hy : a.eval y = .slice (some ⟨w.heap.size, 0, none⟩) 1 1)
    (hh : ∀ g c w', w'.ownsRow base 3 1 (.slice (some ⟨g, 0, none⟩) (n + 1) c) (n + 1) (ints (xs ++ [x])) → Fr (fun k => v.ownBlock = some k) w w' → wpList Try.prog ops Q rest (a.put o.dst (.slice (some ⟨g, 0, none⟩) (n + 1) c)) w') :
    wpList Try.prog ops Q (o :: rest) a W := by
  subst hW
  obtain ⟨i0, hi0, hz0, hz1, hz2⟩ := info_parts info3
  refine wpList_append_lies _ hgd s y 49 ho base 3 i0 _ 1 8 Try.underlying49 hi0 hz0 hz1 hz2 rfl (by decide) v n (ints xs) hs (h.alloc _) ⟨w.heap.size, 0, none⟩ 1 1 [.int .i64 x] hy rfl (World.news_of_block (cs := #[.int .i64 x]) (t := 3) (fr := (0, 0)) (heap_alloc_new w _)) (by simp [Value.oneCell']) (by omega) (by unfold maxLen; omega) (by omega) (by simp; omega) (w.heap.size + 1) (by simp) ?_
  intro g c w' h1 h2 _ _
  refine hh g c w' ?_ (((Fr.refl _ _).alloc _).grown h2 (fun k hk _ => hk))
  simpa [ints] using h1
set_option maxRecDepth 100000 in
set_option maxHeartbeats 3200000 in
theorem bits_any (c : Int) (n : Nat) (w : World) (hc : I64 c) (hn : n ≤ 19) : Calls Try.prog 29 #[.int .i64 c, .int .i64 n] w fun e w' => ∃ v, e = .returned v ∧ w'.ownsRow w.heap.size 3 1 v (bitsAt (pickF c 4096).toNat n).length (ints (bitsAt (pickF c 4096).toNat n)) ∧ Fr (fun _ => False) w w' := by
  have HP := hid (pick27 c 4096 · hc (by omega) (by omega))
  have hin := pickF_in c 4096 (by omega)
  obtain ⟨x, hx⟩ := Int.eq_ofNat_of_zero_le hin.1
  rw [hx] at HP hin ⊢
  rw [Int.toNat_natCast]
  have hx2 : x < 4096 := by omega
  clear hx hc hin
  have HLE := hid (bitsAt_le x)
  go_enter Try.func29, Try.ntmps29
  go_wp2
  go_loopw [5, 6] (fun s5 s6 wr => ∃ (k : Nat) (a : Option Addr) (cc : Nat), k ≤ n ∧ s6 = .int .i64 k ∧ s5 = .slice a (bitsAt x k).length cc ∧ Hid (wr.ownsRow w.heap.size 3 1 (.slice a (bitsAt x k).length cc) (bitsAt x k).length (ints (bitsAt x k))) ∧ Hid (Fr (fun _ => False) w wr)) (fun _ s6 _ => n - (intOf s6).toNat)
  case atStart => exact ⟨0, none, 0, Nat.zero_le _, rfl, rfl, hid (World.ownsRow_nil _ _ _ _), hid (Fr.refl _ _)⟩
  case round =>
    obtain ⟨k, a, cc, hk, rfl, rfl, hO, hF⟩ := hrel
    by_cases hlt : k < n
    · by_cases hl3 : (bitsAt x k).length < 3
      · have HB := bit_eq x k
        have hln := HLE.out k
        by_cases hb : x / 2 ^ k % 2 = 1
        · have HUP : Hid (bitsAt x (k + 1) = bitsAt x k ++ [(k : Int)]) := hid (by rw [bitsAt, if_pos ⟨hl3, hb⟩])
          have hbb : (((x : Int) / 2 ^ k).tmod 2 == 1) = true := by rw [HB]; simpa using hb
          clear HB hb
          go_wp2_with (first | (go_at_call 27; refine (HP.out _).mono ?_; rintro e w1 ⟨rfl, rfl⟩) | (refine append_num hO.out hF.out.size (by omega) (k : Int) rfl (.tmp 23) (.tmp 25) rfl (by rfl) (by rfl) (by rfl) ?_; intro g c2 w2 h1 f1; have H1 := hid h1; have F1 := hid f1; clear h1 f1))
          go_roundw
          case rel => exact ⟨k + 1, some ⟨g, 0, none⟩, c2, by omega, by go_num, by rw [HUP.out, List.length_append]; rfl, hid (by rw [HUP.out, List.length_append]; exact H1.out), hid (hF.out.then F1.out (fun i hi e => by have := own_base hO.out i e; omega))⟩
          case measure => simp [intOf]; omega
        · have HUP : Hid (bitsAt x (k + 1) = bitsAt x k) := hid (by rw [bitsAt, if_neg (fun h => hb h.2)])
          have hbb : (((x : Int) / 2 ^ k).tmod 2 == 1) = false := by rw [HB]; simpa using hb
          clear HB hb
          go_wp2_with (go_at_call 27; refine (HP.out _).mono ?_; rintro e w1 ⟨rfl, rfl⟩)
          go_roundw
          case rel => exact ⟨k + 1, a, cc, by omega, by go_num, by rw [HUP.out], hid (by rw [HUP.out]; exact hO.out), hF⟩
          case measure => simp [intOf]; omega
      · have hln := HLE.out k
        have HST : Hid (bitsAt x n = bitsAt x k) := hid (by
          have := bitsAt_stop x k (by omega) (n - k)
          rwa [show k + (n - k) = n by omega] at this)
        go_wp2
        go_ret
        exact ⟨_, rfl, by rw [HST.out]; exact hO.out, hF.out⟩
    · obtain rfl : k = n := by omega
      clear hlt hk
      go_wp2
      go_ret
      exact ⟨_, rfl, hO.out, hF.out⟩
end Go.Proofs.Ytfalhljidnpmgaa
