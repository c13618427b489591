/- What Read, Write, Sync and Cut of the disk do. No condition beside the sizes. -/
import Derived.Test.YtlnngeafhinpkaaD3
set_option linter.unusedVariables false
set_option linter.unusedSimpArgs false
namespace Go.Proofs.Ytlnngeafhinpkaa
open Go.RowKit

theorem inside_b (B : Nat) (off n : Int) (ad : Option Addr) (len cap : Nat) (w : World) (hl : len ≤ 4194304) (h1 : -9223372036854775808 ≤ off) (h2 : off ≤ 9223372036854775807)
   (hc : w.cell? ⟨B, 2, none⟩ = some (.slice ad len cap)) (b : Bool) (hb : insideB off n len = b) :
    Calls Try.prog 29 #[.pointer (some ⟨B, 0, none⟩), .int .i64 off, .int .i64 n] w fun e w' => e = .returned (.bool b) ∧ w = w' := by
  subst hb
  exact inside_any B off n ad len cap w hl h1 h2 hc
theorem inside_true {off n len : Int} (h : 0 ≤ off ∧ 0 ≤ n ∧ off ≤ len ∧ n ≤ len - off) : insideB off n len = true := by simp only [insideB, decide_eq_true_eq]; exact h

def readS (s : St) (n : Nat) (off k : Int) : ByteArray × Int :=
  if s.off then (ByteArray.empty, 91) else if insideB off k n then (⟨((s.vis.drop off.toNat).take k.toNat).toArray⟩, 0) else (ByteArray.empty, 90)

theorem emptyBA : ({ data := #[] } : ByteArray) = ByteArray.empty := rfl

set_option maxRecDepth 100000 in
set_option maxHeartbeats 1600000 in
theorem read_any {w : World} {B bd bv n : Nat} {pv : Value} {s : St} (h : IsDisk w B bd bv pv n s) (off k : Int) (ho1 : -9223372036854775808 ≤ off) (ho2 : off ≤ 9223372036854775807) :
    Calls Try.prog 14 #[.pointer (some ⟨B, 0, none⟩), .int .i64 off, .int .i64 k] w fun e w' => e = .returned (.tuple #[.string (readS s n off k).1, .int .i64 (readS s n off k).2]) ∧ w = w' := by
  have c0 := h.c0
  have c2 := h.c2
  have c3 := h.c3
  have n2 := h.n2
  have lv := hid h.lv
  have hv := hid h.hv
  clear h
  cases hs : s.off with
  | true =>
    rw [hs] at c0
    clear c2 c3 
    have HS := hid hs
    clear hs
    go_enter Try.func14, Try.ntmps14
    go_wp2_with (go_at_call 28; refine (check_off _ _ (by assumption)).mono ?_; rintro e w' ⟨rfl, rfl⟩)
    go_ret2
    exact ⟨by unfold readS; rw [if_pos HS.out]; rfl, rfl⟩
  | false =>
    rw [hs] at c0
    have HS := hid hs
    clear hs
    cases hi : insideB off k n with
    | false =>
      have HI := hid hi
      go_enter Try.func14, Try.ntmps14
      go_wp2_with (first | (go_at_call 28; refine (check_on _ _ (by assumption)).mono ?_; rintro e w' ⟨rfl, rfl⟩) | (go_at_call 29; refine (inside_b _ _ _ _ _ _ _ n2 ho1 ho2 c2 false hi).mono ?_; rintro e w' ⟨rfl, rfl⟩))
      go_ret2
      exact ⟨by unfold readS; rw [if_neg (by rw [HS.out]; simp), HI.out]; rfl, rfl⟩
    | true =>
      have hb : 0 ≤ off ∧ 0 ≤ k ∧ off ≤ (n : Int) ∧ k ≤ (n : Int) - off := by simpa [insideB] using hi
      obtain ⟨hb1, hb2, hb3, hb4⟩ := hb
      obtain ⟨o, rfl⟩ := Int.eq_ofNat_of_zero_le hb1
      obtain ⟨m, rfl⟩ := Int.eq_ofNat_of_zero_le hb2
      have hb5 : m ≤ n - o := by omega
      have hb6 : (m : Int) ≤ ((n - o : Nat) : Int) := by omega
      have HI := hid hi
      clear hi
      by_cases hon : o = n
      · obtain rfl := hon
        obtain rfl : m = 0 := by omega
        go_enter Try.func14, Try.ntmps14
        go_wp2_with (first | (go_at_call 28; refine (check_on _ _ (by assumption)).mono ?_; rintro e w' ⟨rfl, rfl⟩) | (go_at_call 29; refine (inside_b _ _ _ _ _ _ _ n2 ho1 ho2 c2 true (inside_true (by omega))).mono ?_; rintro e w' ⟨rfl, rfl⟩) | (refine list_of rfl (wp_conv_bytes (.tmp 26) 40 9 rfl 5 rfl rfl rfl _ 0 _ (by rfl) bv o s.vis 5 hv.out (fun h => by omega) (by rw [lv.out]; omega) ?_)))
        go_ret2
        exact ⟨by unfold readS; rw [if_neg (by rw [HS.out]; simp), if_pos HI.out]; simp, rfl⟩
      · have hlt : (o : Int) < (n : Int) := by omega
        have hne : ¬ n = o := by omega
        go_enter Try.func14, Try.ntmps14
        go_wp2_with (first | (go_at_call 28; refine (check_on _ _ (by assumption)).mono ?_; rintro e w' ⟨rfl, rfl⟩) | (go_at_call 29; refine (inside_b _ _ _ _ _ _ _ n2 ho1 ho2 c2 true (inside_true (by omega))).mono ?_; rintro e w' ⟨rfl, rfl⟩) | (refine list_of rfl (wp_conv_bytes (.tmp 26) 40 9 rfl 5 rfl rfl rfl _ m _ (by rfl) bv o s.vis 5 hv.out (fun _ => by rfl) (by rw [lv.out]; omega) ?_)))
        go_ret2
        exact ⟨by unfold readS; rw [if_neg (by rw [HS.out]; simp), if_pos HI.out]; simp, rfl⟩

theorem read_nil (off k : Int) (w : World) :
    Calls Try.prog 14 #[.pointer none, .int .i64 off, .int .i64 k] w fun e w' => e = .returned (.tuple #[.string ByteArray.empty, .int .i64 1]) ∧ w = w' := by
  go_enter Try.func14, Try.ntmps14
  go_wp2_with (go_at_call 28; refine (check_nil _).mono ?_; rintro e w' ⟨rfl, rfl⟩)
  go_ret2
  exact ⟨rfl, rfl⟩

/-- What a changing call leaves. -/
def Did (w : World) (B bd bv : Nat) (pv : Value) (n : Nat) (r : Value) (s : St) (e : Ending) (w' : World) : Prop :=
  e = .returned r ∧ (∃ pv', IsDisk w' B bd bv pv' n s ∧ (pv'.ownBlock = pv.ownBlock ∨ ∃ k, pv'.ownBlock = some k ∧ w.heap.size ≤ k)) ∧ Fr (Foot B bd bv pv) w w'
theorem Did.same {w : World} {B bd bv n : Nat} {pv r : Value} {s : St} (h : IsDisk w B bd bv pv n s) : Did w B bd bv pv n r s (.returned r) w := ⟨rfl, ⟨pv, h, .inl rfl⟩, Fr.refl _ _⟩

def syncS (s : St) : Int × St := if s.off then (91, s) else (0, { s with dur := s.vis, pend := [] })

set_option maxRecDepth 100000 in
set_option maxHeartbeats 1600000 in
theorem sync_any {w : World} {B bd bv n : Nat} {pv : Value} {s : St} (h : IsDisk w B bd bv pv n s) :
    Calls Try.prog 23 #[.pointer (some ⟨B, 0, none⟩)] w (Did w B bd bv pv n (.int .i64 (syncS s).1) (syncS s).2) := by
  have c0 := h.c0
  have c2 := h.c2
  have c3 := h.c3
  have H := hid h
  clear h
  cases hs : s.off with
  | true =>
    rw [hs] at c0
    have HS := hid hs
    clear hs c2 c3
    go_enter Try.func23, Try.ntmps23
    go_wp2_with (go_at_call 28; refine (check_off _ _ (by assumption)).mono ?_; rintro e w' ⟨rfl, rfl⟩)
    go_ret
    have e : syncS s = (91, s) := by unfold syncS; rw [if_pos HS.out]
    rw [e]
    exact Did.same H.out
  | false =>
    rw [hs] at c0
    have HS := hid hs
    clear hs
    have e : syncS s = (0, { s with dur := s.vis, pend := [] }) := by unfold syncS; rw [if_neg (by rw [HS.out]; simp)]
    rw [e]
    clear e
    go_enter Try.func23, Try.ntmps23
    go_wp2_with (go_at_call 28; refine (check_on _ _ (by assumption)).mono ?_; rintro e w' ⟨rfl, rfl⟩)
    go_region_with (go_at_call 37; refine (settle_sync (H.out.drewN 1)).mono ?_; rintro e w2 ⟨rfl, ⟨pv', h2, h3⟩, h4⟩)
    all_goals (try go_wp2)
    all_goals go_ret
    all_goals exact ⟨rfl, ⟨pv', h2, .inl h3⟩, ((Fr.refl _ _).drewN 1).trans h4⟩

theorem sync_nil (w : World) : Calls Try.prog 23 #[.pointer none] w fun e w' => e = .returned (.int .i64 1) ∧ w = w' := by
  go_enter Try.func23, Try.ntmps23
  go_wp2_with (go_at_call 28; refine (check_nil _).mono ?_; rintro e w' ⟨rfl, rfl⟩)
  go_ret
  exact ⟨rfl, rfl⟩

theorem row01 (w : World) (B : Nat) (a b c d e : Value) (h : w.heap[B]? = some (.cells [a, b, c, d, e].toArray 65 (0, 0))) (u v : Value) :
    ((w.setCell ⟨B, 0, none⟩ u).setCell ⟨B, 1, none⟩ v).heap[B]? = some (.cells [u, v, c, d, e].toArray 65 (0, 0)) := by
  have h1 := heap_setCell_same w B 0 _ 65 u h
  have h2 := heap_setCell_same _ B 1 _ 65 v h1
  rw [h2]
  simp
theorem IsDisk.power {w : World} {B bd bv n : Nat} {pv : Value} {s : St} (h : IsDisk w B bd bv pv n s) (o : Bool) (l : Int) :
    IsDisk ((w.setCell ⟨B, 0, none⟩ (.bool o)).setCell ⟨B, 1, none⟩ (.int .i64 l)) B bd bv pv n { s with off := o, left := l } ∧ Fr (fun k => k = B) w ((w.setCell ⟨B, 0, none⟩ (.bool o)).setCell ⟨B, 1, none⟩ (.int .i64 l)) := by
  have hk : ∀ k, k ≠ B → ((w.setCell ⟨B, 0, none⟩ (.bool o)).setCell ⟨B, 1, none⟩ (.int .i64 l)).heap[k]? = w.heap[k]? := fun k hk =>
    (Below.heap_setCell _ _ _ _ hk).trans (Below.heap_setCell _ _ _ _ hk)
  refine ⟨{ hB := row01 w B _ _ _ _ _ h.hB _ _, hd := (hk bd h.nBd.symm).trans h.hd, hv := (hk bv h.nBv.symm).trans h.hv,
            hp := h.hp.kept (row := some B) ⟨rfl, rfl, rfl, by simp [World.setCell], fun k _ e => hk k (fun e' => e (by rw [e']))⟩ (.inr h.npB),
            ne := h.ne, ld := h.ld, lv := h.lv, n1 := h.n1, n2 := h.n2 }, ?_⟩
  refine Fr.set1 ?_ (by rfl) _ _
  refine Fr.set1 ?_ (by rfl) _ _
  exact Fr.refl _ _

def cutS (s : St) (k : Int) : Int × St := if s.off then (91, s) else if k < 0 then (2, s) else (0, { s with off := k == 0, left := k })

set_option maxRecDepth 100000 in
set_option maxHeartbeats 1600000 in
theorem cut_any {w : World} {B bd bv n : Nat} {pv : Value} {s : St} (h : IsDisk w B bd bv pv n s) (k : Int) :
    Calls Try.prog 24 #[.pointer (some ⟨B, 0, none⟩), .int .i64 k] w (Did w B bd bv pv n (.int .i64 (cutS s k).1) (cutS s k).2) := by
  have c0 := h.c0
  have c1 := h.c1
  have f0 := h.fr 0
  have f1 := h.fr 1
  have H := hid h
  clear h
  cases hs : s.off with
  | true =>
    rw [hs] at c0
    have HS := hid hs
    clear hs
    go_enter Try.func24, Try.ntmps24
    go_wp2_with (go_at_call 28; refine (check_off _ _ (by assumption)).mono ?_; rintro e w' ⟨rfl, rfl⟩)
    go_ret
    have e : cutS s k = (91, s) := by unfold cutS; rw [if_pos HS.out]
    rw [e]
    exact Did.same H.out
  | false =>
    rw [hs] at c0
    have HS := hid hs
    clear hs
    by_cases hk : k < 0
    · go_enter Try.func24, Try.ntmps24
      go_wp2_with (go_at_call 28; refine (check_on _ _ (by assumption)).mono ?_; rintro e w' ⟨rfl, rfl⟩)
      go_ret
      have e : cutS s k = (2, s) := by unfold cutS; rw [if_neg (by rw [HS.out]; simp), if_pos hk]
      rw [e]
      exact Did.same H.out
    · have e : cutS s k = (0, { s with off := k == 0, left := k }) := by unfold cutS; rw [if_neg (by rw [HS.out]; simp), if_neg hk]
      rw [e]
      clear e
      go_enter Try.func24, Try.ntmps24
      go_wp2_with (go_at_call 28; refine (check_on _ _ (by assumption)).mono ?_; rintro e w' ⟨rfl, rfl⟩)
      go_ret
      obtain ⟨h1, h2⟩ := H.out.power (k == 0) k
      exact ⟨rfl, ⟨_, h1, .inl rfl⟩, h2.mono (fun _ _ e => .inl e)⟩

theorem cut_nil (k : Int) (w : World) : Calls Try.prog 24 #[.pointer none, .int .i64 k] w fun e w' => e = .returned (.int .i64 1) ∧ w = w' := by
  go_enter Try.func24, Try.ntmps24
  go_wp2_with (go_at_call 28; refine (check_nil _).mono ?_; rintro e w' ⟨rfl, rfl⟩)
  go_ret
  exact ⟨rfl, rfl⟩

end Go.Proofs.Ytlnngeafhinpkaa
