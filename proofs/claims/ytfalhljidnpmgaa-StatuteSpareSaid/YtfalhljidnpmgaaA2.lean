/- slices.IndexFunc and slices.ContainsFunc at the types of the statute, for a function that may change the world in a known way. No condition. -/
import Derived.Test.YtfalhljidnpmgaaA1
import Derived.Shelf.Abstract
set_option linter.unusedVariables false
set_option linter.unusedSimpArgs false
namespace Go.Proofs.Ytfalhljidnpmgaa
open Go.RowKit Go.Proofs.Statute

def IdxPost (I : Nat → World → Prop) (p : Nat → Bool) (n : Nat) (e : Ending) (w' : World) : Prop :=
  ∃ k, k ≤ n ∧ I k w' ∧ ∃ z : Int, e = .returned (.int .i64 z) ∧ (0 ≤ z → ∃ j, j < n ∧ p j = true) ∧ (z < 0 → ∀ j, j < n → p j = false) ∧ -1 ≤ z ∧ z ≤ n
def ConPost (I : Nat → World → Prop) (p : Nat → Bool) (n : Nat) (e : Ending) (w' : World) : Prop :=
  ∃ k, k ≤ n ∧ I k w' ∧ e = .returned (.bool ((List.range n).any p))
theorem con_any (p : Nat → Bool) (n : Nat) (z : Int) (h1 : 0 ≤ z → ∃ j, j < n ∧ p j = true) (h2 : z < 0 → ∀ j, j < n → p j = false) : (List.range n).any p = decide (0 ≤ z) := by
  rw [Bool.eq_iff_iff, List.any_eq_true, decide_eq_true_eq]
  constructor
  · rintro ⟨j, hj, hp⟩
    rw [List.mem_range] at hj
    by_cases hz : 0 ≤ z
    · exact hz
    · rw [h2 (by omega) j hj] at hp
      exact absurd hp (by simp)
  · intro hz
    obtain ⟨j, hj, hp⟩ := h1 hz
    exact ⟨j, List.mem_range.2 hj, hp⟩

set_option maxRecDepth 100000 in
set_option maxHeartbeats 1600000 in
theorem indexI {K : Nat → Prop} (I : Nat → World → Prop) (p : Nat → Bool) (g : Nat) (bd lb : Array Value) (eg : ∀ args w, (callFunc g args).run Try.prog w = .ok (.enter g args) w) (v : Value) (xs : List Int) (w : World) (hn : xs.length ≤ 1000000)
    (h0 : I 0 w) (hI : ∀ i W, I i W → Reads K W 1 encI v xs) (hc : ∀ i (h : i < xs.length) W, (∀ j, j < i → p j = false) → I i W → Calls Try.prog g (bd ++ #[.int .i64 xs[i]] ++ lb) W fun e W' => e = .returned (.bool (p i)) ∧ I (i + 1) W') :
    Calls Try.prog 73 #[v, .func (.func g) bd lb] w (IdxPost I p xs.length) := by
  obtain ⟨a, c, rfl, h1, h2, _⟩ := hI 0 w h0
  have H0 := hid h0
  have HI := hid hI
  have HC := hid hc
  clear h0 hI hc
  go_enter Try.func73, Try.ntmps73
  go_wp2
  go_loopw [5, 8] (fun _ s8 wr => ∃ k : Nat, k ≤ xs.length ∧ s8 = .int .i64 k ∧ Hid (I k wr) ∧ Hid (∀ j, j < k → p j = false)) (fun _ s8 _ => xs.length - (intOf s8).toNat)
  case atStart => exact ⟨0, Nat.zero_le _, rfl, H0, fun j hj => absurd hj (Nat.not_lt_zero _)⟩
  case round =>
    obtain ⟨k, hk, rfl, hi, hA⟩ := hrel
    by_cases hlt : k < xs.length
    · obtain ⟨a', c', e', _, _, h3⟩ := HI.out k _ hi.out
      injection e' with e1 _ e2
      subst e1 e2
      obtain ⟨b, o, rfl, _, _, hr⟩ := h3 (by omega)
      have hcall := HC.out k hlt _ hA.out hi.out
      clear h3
      have c0 := hr k hlt 0 _ rfl

      rw [Nat.mul_one, Nat.add_zero] at c0
      clear hr
      generalize hy : xs[k] = y at c0 hcall
      have HY := hid hy
      clear hy
      cases hq : p k with
      | true =>
        rw [hq] at hcall
        have HQ := hid hq
        clear hq
        have HCALL := hid hcall
        clear hcall
        go_wp2_with (go_at_fn g; refine HCALL.out.mono ?_; rintro e w' ⟨rfl, hi2⟩)
        go_ret
        exact ⟨k + 1, by omega, hi2, k, rfl, fun _ => ⟨k, hlt, HQ.out⟩, fun h => by omega, by omega, by omega⟩
      | false =>
        rw [hq] at hcall
        have HQ := hid hq
        clear hq
        have HCALL := hid hcall
        clear hcall
        go_wp2_with (go_at_fn g; refine HCALL.out.mono ?_; rintro e w' ⟨rfl, hi2⟩; have HI2 := hid hi2; clear hi2)
        go_roundw
        case rel => exact ⟨k + 1, by omega, by go_num, HI2, hid (fun j hj => by
          by_cases e : j = k
          · rw [e]; exact HQ.out
          · exact hA.out j (by omega))⟩
        case measure => simp [intOf]; omega
    · obtain rfl : k = xs.length := by omega
      clear hlt
      go_wp2
      go_ret
      exact ⟨xs.length, Nat.le_refl _, hi.out, -1, rfl, fun h => by omega, fun _ => hA.out, by omega, by omega⟩
set_option maxRecDepth 100000 in
set_option maxHeartbeats 800000 in
theorem containsI {K : Nat → Prop} (I : Nat → World → Prop) (p : Nat → Bool) (g : Nat) (bd lb : Array Value) (eg : ∀ args w, (callFunc g args).run Try.prog w = .ok (.enter g args) w) (v : Value) (xs : List Int) (w : World) (hn : xs.length ≤ 1000000)
    (h0 : I 0 w) (hI : ∀ i W, I i W → Reads K W 1 encI v xs) (hc : ∀ i (h : i < xs.length) W, (∀ j, j < i → p j = false) → I i W → Calls Try.prog g (bd ++ #[.int .i64 xs[i]] ++ lb) W fun e W' => e = .returned (.bool (p i)) ∧ I (i + 1) W') :
    Calls Try.prog 56 #[v, .func (.func g) bd lb] w (ConPost I p xs.length) := by
  have HX := hid (indexI I p g bd lb eg v xs w hn h0 hI hc)
  clear h0 hI hc
  go_enter Try.func56, Try.ntmps56
  go_wp2_with (go_at_call 73; refine HX.out.mono ?_; rintro e w' ⟨k, hk, hi, z, rfl, z1, z2, z3, z4⟩; have Z := hid (con_any p xs.length z z1 z2); have HII := hid hi; clear z1 z2 hi)
  go_ret
  exact ⟨k, hk, HII.out, by rw [Z.out]; rfl⟩

set_option maxRecDepth 100000 in
set_option maxHeartbeats 1600000 in
theorem indexC {K : Nat → Prop} (I : Nat → World → Prop) (p : Nat → Bool) (g : Nat) (bd lb : Array Value) (eg : ∀ args w, (callFunc g args).run Try.prog w = .ok (.enter g args) w) (v : Value) (xs : List CM) (w : World) (hn : xs.length ≤ 1000000)
    (h0 : I 0 w) (hI : ∀ i W, I i W → Reads K W 6 encC v xs) (hc : ∀ i (h : i < xs.length) W, (∀ j, j < i → p j = false) → I i W → Calls Try.prog g (bd ++ #[.agg (encC xs[i]).toArray] ++ lb) W fun e W' => e = .returned (.bool (p i)) ∧ I (i + 1) W') :
    Calls Try.prog 54 #[v, .func (.func g) bd lb] w (IdxPost I p xs.length) := by
  obtain ⟨a, c, rfl, h1, h2, _⟩ := hI 0 w h0
  have H0 := hid h0
  have HI := hid hI
  have HC := hid hc
  clear h0 hI hc
  go_enter Try.func54, Try.ntmps54
  go_wp2
  go_loopw [5, 8] (fun _ s8 wr => ∃ k : Nat, k ≤ xs.length ∧ s8 = .int .i64 k ∧ Hid (I k wr) ∧ Hid (∀ j, j < k → p j = false)) (fun _ s8 _ => xs.length - (intOf s8).toNat)
  case atStart => exact ⟨0, Nat.zero_le _, rfl, H0, fun j hj => absurd hj (Nat.not_lt_zero _)⟩
  case round =>
    obtain ⟨k, hk, rfl, hi, hA⟩ := hrel
    by_cases hlt : k < xs.length
    · obtain ⟨a', c', e', _, _, h3⟩ := HI.out k _ hi.out
      injection e' with e1 _ e2
      subst e1 e2
      obtain ⟨b, o, rfl, _, _, hr⟩ := h3 (by omega)
      have hcall := HC.out k hlt _ hA.out hi.out
      clear h3
      have c0 := hr k hlt 0 _ rfl
      have c1 := hr k hlt 1 _ rfl
      have c2 := hr k hlt 2 _ rfl
      have c3 := hr k hlt 3 _ rfl
      have c4 := hr k hlt 4 _ rfl
      have c5 := hr k hlt 5 _ rfl
      simp only [Nat.add_zero] at c0
      clear hr
      generalize hy : xs[k] = y at c0 c1 c2 c3 c4 c5 hcall
      have HY := hid hy
      clear hy
      cases hq : p k with
      | true =>
        rw [hq] at hcall
        have HQ := hid hq
        clear hq
        have HCALL := hid hcall
        clear hcall
        go_wp2_with (go_at_fn g; refine HCALL.out.mono ?_; rintro e w' ⟨rfl, hi2⟩)
        go_ret
        exact ⟨k + 1, by omega, hi2, k, rfl, fun _ => ⟨k, hlt, HQ.out⟩, fun h => by omega, by omega, by omega⟩
      | false =>
        rw [hq] at hcall
        have HQ := hid hq
        clear hq
        have HCALL := hid hcall
        clear hcall
        go_wp2_with (go_at_fn g; refine HCALL.out.mono ?_; rintro e w' ⟨rfl, hi2⟩; have HI2 := hid hi2; clear hi2)
        go_roundw
        case rel => exact ⟨k + 1, by omega, by go_num, HI2, hid (fun j hj => by
          by_cases e : j = k
          · rw [e]; exact HQ.out
          · exact hA.out j (by omega))⟩
        case measure => simp [intOf]; omega
    · obtain rfl : k = xs.length := by omega
      clear hlt
      go_wp2
      go_ret
      exact ⟨xs.length, Nat.le_refl _, hi.out, -1, rfl, fun h => by omega, fun _ => hA.out, by omega, by omega⟩
set_option maxRecDepth 100000 in
set_option maxHeartbeats 800000 in
theorem containsC {K : Nat → Prop} (I : Nat → World → Prop) (p : Nat → Bool) (g : Nat) (bd lb : Array Value) (eg : ∀ args w, (callFunc g args).run Try.prog w = .ok (.enter g args) w) (v : Value) (xs : List CM) (w : World) (hn : xs.length ≤ 1000000)
    (h0 : I 0 w) (hI : ∀ i W, I i W → Reads K W 6 encC v xs) (hc : ∀ i (h : i < xs.length) W, (∀ j, j < i → p j = false) → I i W → Calls Try.prog g (bd ++ #[.agg (encC xs[i]).toArray] ++ lb) W fun e W' => e = .returned (.bool (p i)) ∧ I (i + 1) W') :
    Calls Try.prog 38 #[v, .func (.func g) bd lb] w (ConPost I p xs.length) := by
  have HX := hid (indexC I p g bd lb eg v xs w hn h0 hI hc)
  clear h0 hI hc
  go_enter Try.func38, Try.ntmps38
  go_wp2_with (go_at_call 54; refine HX.out.mono ?_; rintro e w' ⟨k, hk, hi, z, rfl, z1, z2, z3, z4⟩; have Z := hid (con_any p xs.length z z1 z2); have HII := hid hi; clear z1 z2 hi)
  go_ret
  exact ⟨k, hk, HII.out, by rw [Z.out]; rfl⟩

set_option maxRecDepth 100000 in
set_option maxHeartbeats 1600000 in
theorem indexR {K : Nat → Prop} (I : Nat → World → Prop) (p : Nat → Bool) (g : Nat) (bd lb : Array Value) (eg : ∀ args w, (callFunc g args).run Try.prog w = .ok (.enter g args) w) (v : Value) (xs : List Rp) (w : World) (hn : xs.length ≤ 1000000)
    (h0 : I 0 w) (hI : ∀ i W, I i W → Reads K W 3 encR v xs) (hc : ∀ i (h : i < xs.length) W, (∀ j, j < i → p j = false) → I i W → Calls Try.prog g (bd ++ #[.agg (encR xs[i]).toArray] ++ lb) W fun e W' => e = .returned (.bool (p i)) ∧ I (i + 1) W') :
    Calls Try.prog 57 #[v, .func (.func g) bd lb] w (IdxPost I p xs.length) := by
  obtain ⟨a, c, rfl, h1, h2, _⟩ := hI 0 w h0
  have H0 := hid h0
  have HI := hid hI
  have HC := hid hc
  clear h0 hI hc
  go_enter Try.func57, Try.ntmps57
  go_wp2
  go_loopw [5, 8] (fun _ s8 wr => ∃ k : Nat, k ≤ xs.length ∧ s8 = .int .i64 k ∧ Hid (I k wr) ∧ Hid (∀ j, j < k → p j = false)) (fun _ s8 _ => xs.length - (intOf s8).toNat)
  case atStart => exact ⟨0, Nat.zero_le _, rfl, H0, fun j hj => absurd hj (Nat.not_lt_zero _)⟩
  case round =>
    obtain ⟨k, hk, rfl, hi, hA⟩ := hrel
    by_cases hlt : k < xs.length
    · obtain ⟨a', c', e', _, _, h3⟩ := HI.out k _ hi.out
      injection e' with e1 _ e2
      subst e1 e2
      obtain ⟨b, o, rfl, _, _, hr⟩ := h3 (by omega)
      have hcall := HC.out k hlt _ hA.out hi.out
      clear h3
      have c0 := hr k hlt 0 _ rfl
      have c1 := hr k hlt 1 _ rfl
      have c2 := hr k hlt 2 _ rfl
      simp only [Nat.add_zero] at c0
      clear hr
      generalize hy : xs[k] = y at c0 c1 c2 hcall
      have HY := hid hy
      clear hy
      cases hq : p k with
      | true =>
        rw [hq] at hcall
        have HQ := hid hq
        clear hq
        have HCALL := hid hcall
        clear hcall
        go_wp2_with (go_at_fn g; refine HCALL.out.mono ?_; rintro e w' ⟨rfl, hi2⟩)
        go_ret
        exact ⟨k + 1, by omega, hi2, k, rfl, fun _ => ⟨k, hlt, HQ.out⟩, fun h => by omega, by omega, by omega⟩
      | false =>
        rw [hq] at hcall
        have HQ := hid hq
        clear hq
        have HCALL := hid hcall
        clear hcall
        go_wp2_with (go_at_fn g; refine HCALL.out.mono ?_; rintro e w' ⟨rfl, hi2⟩; have HI2 := hid hi2; clear hi2)
        go_roundw
        case rel => exact ⟨k + 1, by omega, by go_num, HI2, hid (fun j hj => by
          by_cases e : j = k
          · rw [e]; exact HQ.out
          · exact hA.out j (by omega))⟩
        case measure => simp [intOf]; omega
    · obtain rfl : k = xs.length := by omega
      clear hlt
      go_wp2
      go_ret
      exact ⟨xs.length, Nat.le_refl _, hi.out, -1, rfl, fun h => by omega, fun _ => hA.out, by omega, by omega⟩
set_option maxRecDepth 100000 in
set_option maxHeartbeats 800000 in
theorem containsR {K : Nat → Prop} (I : Nat → World → Prop) (p : Nat → Bool) (g : Nat) (bd lb : Array Value) (eg : ∀ args w, (callFunc g args).run Try.prog w = .ok (.enter g args) w) (v : Value) (xs : List Rp) (w : World) (hn : xs.length ≤ 1000000)
    (h0 : I 0 w) (hI : ∀ i W, I i W → Reads K W 3 encR v xs) (hc : ∀ i (h : i < xs.length) W, (∀ j, j < i → p j = false) → I i W → Calls Try.prog g (bd ++ #[.agg (encR xs[i]).toArray] ++ lb) W fun e W' => e = .returned (.bool (p i)) ∧ I (i + 1) W') :
    Calls Try.prog 44 #[v, .func (.func g) bd lb] w (ConPost I p xs.length) := by
  have HX := hid (indexR I p g bd lb eg v xs w hn h0 hI hc)
  clear h0 hI hc
  go_enter Try.func44, Try.ntmps44
  go_wp2_with (go_at_call 57; refine HX.out.mono ?_; rintro e w' ⟨k, hk, hi, z, rfl, z1, z2, z3, z4⟩; have Z := hid (con_any p xs.length z z1 z2); have HII := hid hi; clear z1 z2 hi)
  go_ret
  exact ⟨k, hk, HII.out, by rw [Z.out]; rfl⟩

set_option maxRecDepth 100000 in
set_option maxHeartbeats 1600000 in
theorem indexF {K : Nat → Prop} (I : Nat → World → Prop) (p : Nat → Bool) (g : Nat) (bd lb : Array Value) (eg : ∀ args w, (callFunc g args).run Try.prog w = .ok (.enter g args) w) (v : Value) (xs : List Fc) (w : World) (hn : xs.length ≤ 1000000)
    (h0 : I 0 w) (hI : ∀ i W, I i W → Reads K W 6 encF v xs) (hc : ∀ i (h : i < xs.length) W, (∀ j, j < i → p j = false) → I i W → Calls Try.prog g (bd ++ #[.agg (encF xs[i]).toArray] ++ lb) W fun e W' => e = .returned (.bool (p i)) ∧ I (i + 1) W') :
    Calls Try.prog 58 #[v, .func (.func g) bd lb] w (IdxPost I p xs.length) := by
  obtain ⟨a, c, rfl, h1, h2, _⟩ := hI 0 w h0
  have H0 := hid h0
  have HI := hid hI
  have HC := hid hc
  clear h0 hI hc
  go_enter Try.func58, Try.ntmps58
  go_wp2
  go_loopw [5, 8] (fun _ s8 wr => ∃ k : Nat, k ≤ xs.length ∧ s8 = .int .i64 k ∧ Hid (I k wr) ∧ Hid (∀ j, j < k → p j = false)) (fun _ s8 _ => xs.length - (intOf s8).toNat)
  case atStart => exact ⟨0, Nat.zero_le _, rfl, H0, fun j hj => absurd hj (Nat.not_lt_zero _)⟩
  case round =>
    obtain ⟨k, hk, rfl, hi, hA⟩ := hrel
    by_cases hlt : k < xs.length
    · obtain ⟨a', c', e', _, _, h3⟩ := HI.out k _ hi.out
      injection e' with e1 _ e2
      subst e1 e2
      obtain ⟨b, o, rfl, _, _, hr⟩ := h3 (by omega)
      have hcall := HC.out k hlt _ hA.out hi.out
      clear h3
      have c0 := hr k hlt 0 _ rfl
      have c1 := hr k hlt 1 _ rfl
      have c2 := hr k hlt 2 _ rfl
      have c3 := hr k hlt 3 _ rfl
      have c4 := hr k hlt 4 _ rfl
      have c5 := hr k hlt 5 _ rfl
      simp only [Nat.add_zero] at c0
      clear hr
      generalize hy : xs[k] = y at c0 c1 c2 c3 c4 c5 hcall
      have HY := hid hy
      clear hy
      cases hq : p k with
      | true =>
        rw [hq] at hcall
        have HQ := hid hq
        clear hq
        have HCALL := hid hcall
        clear hcall
        go_wp2_with (go_at_fn g; refine HCALL.out.mono ?_; rintro e w' ⟨rfl, hi2⟩)
        go_ret
        exact ⟨k + 1, by omega, hi2, k, rfl, fun _ => ⟨k, hlt, HQ.out⟩, fun h => by omega, by omega, by omega⟩
      | false =>
        rw [hq] at hcall
        have HQ := hid hq
        clear hq
        have HCALL := hid hcall
        clear hcall
        go_wp2_with (go_at_fn g; refine HCALL.out.mono ?_; rintro e w' ⟨rfl, hi2⟩; have HI2 := hid hi2; clear hi2)
        go_roundw
        case rel => exact ⟨k + 1, by omega, by go_num, HI2, hid (fun j hj => by
          by_cases e : j = k
          · rw [e]; exact HQ.out
          · exact hA.out j (by omega))⟩
        case measure => simp [intOf]; omega
    · obtain rfl : k = xs.length := by omega
      clear hlt
      go_wp2
      go_ret
      exact ⟨xs.length, Nat.le_refl _, hi.out, -1, rfl, fun h => by omega, fun _ => hA.out, by omega, by omega⟩
set_option maxRecDepth 100000 in
set_option maxHeartbeats 800000 in
theorem containsF {K : Nat → Prop} (I : Nat → World → Prop) (p : Nat → Bool) (g : Nat) (bd lb : Array Value) (eg : ∀ args w, (callFunc g args).run Try.prog w = .ok (.enter g args) w) (v : Value) (xs : List Fc) (w : World) (hn : xs.length ≤ 1000000)
    (h0 : I 0 w) (hI : ∀ i W, I i W → Reads K W 6 encF v xs) (hc : ∀ i (h : i < xs.length) W, (∀ j, j < i → p j = false) → I i W → Calls Try.prog g (bd ++ #[.agg (encF xs[i]).toArray] ++ lb) W fun e W' => e = .returned (.bool (p i)) ∧ I (i + 1) W') :
    Calls Try.prog 46 #[v, .func (.func g) bd lb] w (ConPost I p xs.length) := by
  have HX := hid (indexF I p g bd lb eg v xs w hn h0 hI hc)
  clear h0 hI hc
  go_enter Try.func46, Try.ntmps46
  go_wp2_with (go_at_call 58; refine HX.out.mono ?_; rintro e w' ⟨k, hk, hi, z, rfl, z1, z2, z3, z4⟩; have Z := hid (con_any p xs.length z z1 z2); have HII := hid hi; clear z1 z2 hi)
  go_ret
  exact ⟨k, hk, HII.out, by rw [Z.out]; rfl⟩

set_option maxRecDepth 100000 in
set_option maxHeartbeats 1600000 in
theorem indexD {K : Nat → Prop} (I : Nat → World → Prop) (p : Nat → Bool) (g : Nat) (bd lb : Array Value) (eg : ∀ args w, (callFunc g args).run Try.prog w = .ok (.enter g args) w) (v : Value) (xs : List Fnd) (w : World) (hn : xs.length ≤ 1000000)
    (h0 : I 0 w) (hI : ∀ i W, I i W → Reads K W 4 encD v xs) (hc : ∀ i (h : i < xs.length) W, (∀ j, j < i → p j = false) → I i W → Calls Try.prog g (bd ++ #[.agg (encD xs[i]).toArray] ++ lb) W fun e W' => e = .returned (.bool (p i)) ∧ I (i + 1) W') :
    Calls Try.prog 74 #[v, .func (.func g) bd lb] w (IdxPost I p xs.length) := by
  obtain ⟨a, c, rfl, h1, h2, _⟩ := hI 0 w h0
  have H0 := hid h0
  have HI := hid hI
  have HC := hid hc
  clear h0 hI hc
  go_enter Try.func74, Try.ntmps74
  go_wp2
  go_loopw [5, 8] (fun _ s8 wr => ∃ k : Nat, k ≤ xs.length ∧ s8 = .int .i64 k ∧ Hid (I k wr) ∧ Hid (∀ j, j < k → p j = false)) (fun _ s8 _ => xs.length - (intOf s8).toNat)
  case atStart => exact ⟨0, Nat.zero_le _, rfl, H0, fun j hj => absurd hj (Nat.not_lt_zero _)⟩
  case round =>
    obtain ⟨k, hk, rfl, hi, hA⟩ := hrel
    by_cases hlt : k < xs.length
    · obtain ⟨a', c', e', _, _, h3⟩ := HI.out k _ hi.out
      injection e' with e1 _ e2
      subst e1 e2
      obtain ⟨b, o, rfl, _, _, hr⟩ := h3 (by omega)
      have hcall := HC.out k hlt _ hA.out hi.out
      clear h3
      have c0 := hr k hlt 0 _ rfl
      have c1 := hr k hlt 1 _ rfl
      have c2 := hr k hlt 2 _ rfl
      have c3 := hr k hlt 3 _ rfl
      simp only [Nat.add_zero] at c0
      clear hr
      generalize hy : xs[k] = y at c0 c1 c2 c3 hcall
      have HY := hid hy
      clear hy
      cases hq : p k with
      | true =>
        rw [hq] at hcall
        have HQ := hid hq
        clear hq
        have HCALL := hid hcall
        clear hcall
        go_wp2_with (go_at_fn g; refine HCALL.out.mono ?_; rintro e w' ⟨rfl, hi2⟩)
        go_ret
        exact ⟨k + 1, by omega, hi2, k, rfl, fun _ => ⟨k, hlt, HQ.out⟩, fun h => by omega, by omega, by omega⟩
      | false =>
        rw [hq] at hcall
        have HQ := hid hq
        clear hq
        have HCALL := hid hcall
        clear hcall
        go_wp2_with (go_at_fn g; refine HCALL.out.mono ?_; rintro e w' ⟨rfl, hi2⟩; have HI2 := hid hi2; clear hi2)
        go_roundw
        case rel => exact ⟨k + 1, by omega, by go_num, HI2, hid (fun j hj => by
          by_cases e : j = k
          · rw [e]; exact HQ.out
          · exact hA.out j (by omega))⟩
        case measure => simp [intOf]; omega
    · obtain rfl : k = xs.length := by omega
      clear hlt
      go_wp2
      go_ret
      exact ⟨xs.length, Nat.le_refl _, hi.out, -1, rfl, fun h => by omega, fun _ => hA.out, by omega, by omega⟩
set_option maxRecDepth 100000 in
set_option maxHeartbeats 800000 in
theorem containsD {K : Nat → Prop} (I : Nat → World → Prop) (p : Nat → Bool) (g : Nat) (bd lb : Array Value) (eg : ∀ args w, (callFunc g args).run Try.prog w = .ok (.enter g args) w) (v : Value) (xs : List Fnd) (w : World) (hn : xs.length ≤ 1000000)
    (h0 : I 0 w) (hI : ∀ i W, I i W → Reads K W 4 encD v xs) (hc : ∀ i (h : i < xs.length) W, (∀ j, j < i → p j = false) → I i W → Calls Try.prog g (bd ++ #[.agg (encD xs[i]).toArray] ++ lb) W fun e W' => e = .returned (.bool (p i)) ∧ I (i + 1) W') :
    Calls Try.prog 61 #[v, .func (.func g) bd lb] w (ConPost I p xs.length) := by
  have HX := hid (indexD I p g bd lb eg v xs w hn h0 hI hc)
  clear h0 hI hc
  go_enter Try.func61, Try.ntmps61
  go_wp2_with (go_at_call 74; refine HX.out.mono ?_; rintro e w' ⟨k, hk, hi, z, rfl, z1, z2, z3, z4⟩; have Z := hid (con_any p xs.length z z1 z2); have HII := hid hi; clear z1 z2 hi)
  go_ret
  exact ⟨k, hk, HII.out, by rw [Z.out]; rfl⟩
end Go.Proofs.Ytfalhljidnpmgaa
