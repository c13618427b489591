/- New, Read, Write, Sync and Cut of the reference disk. No condition beside the sizes. -/
import Derived.Test.YtlnngeafhinpkaaJ1
set_option linter.unusedVariables false
set_option linter.unusedSimpArgs false
namespace Go.Proofs.Ytlnngeafhinpkaa
open Go.RowKit

def RDid (w : World) (R : Nat) (dv pv : Value) (n : Nat) (r : Value) (s : St) (e : Ending) (w' : World) : Prop :=
  e = .returned r ∧ (∃ dv' pv', IsRef w' R dv' pv' n s ∧ ∀ k, RFoot R dv' pv' k → RFoot R dv pv k ∨ w.heap.size ≤ k) ∧ Fr (RFoot R dv pv) w w'
theorem RDid.same {w : World} {R n : Nat} {dv pv r : Value} {s : St} (h : IsRef w R dv pv n s) : RDid w R dv pv n r s (.returned r) w := ⟨rfl, ⟨dv, pv, h, fun k hk => .inl hk⟩, Fr.refl _ _⟩

def RNew (n : Nat) (w : World) (e : Ending) (w' : World) : Prop :=
  ∃ R g, e = .returned (.tuple #[.pointer (some ⟨R, 0, none⟩), .int .i64 0]) ∧ IsRef w' R (.slice (some ⟨g, 0, none⟩) n n) (.slice none 0 0) n (fresh n) ∧ Fr (fun _ => False) w w' ∧ w.heap.size ≤ R ∧ w.heap.size ≤ g
theorem rnew_at (n : Nat) (h1 : 1 ≤ n) (h2 : n ≤ 4194304) (w : World) : RNew n w (.returned (.tuple #[.pointer (some ⟨w.heap.size + 1, 0, none⟩), .int .i64 0])) ((w.alloc (.cells (madeCells #[.int .u8 0] n) 5)).alloc (.cells #[.slice (some ⟨w.heap.size, 0, none⟩) n n, .slice none 0 0, .bool false, .int .i64 0] 43)) := by
  rw [made_zeros]
  refine ⟨w.heap.size + 1, w.heap.size, rfl, ?_, ((Fr.refl _ _).alloc _).alloc _, by omega, Nat.le_refl _⟩
  have e0 := heap_alloc_new w (.cells (bvs (zeros n)).toArray 5)
  have e1 := heap_alloc_new (w.alloc (.cells (bvs (zeros n)).toArray 5)) (.cells #[.slice (some ⟨w.heap.size, 0, none⟩) n n, .slice none 0 0, .bool false, .int .i64 0] 43)
  rw [World.size_alloc] at e1
  have hl := World.ownsRow_lit (base := 0) (e := 5) (size := 1) w (bvs (zeros n)).toArray n (Nat.zero_le _) (by unfold maxLen; omega) (by simp [bvs_length, zeros])
  exact { hR := e1, hd := hl.alloc _, hp := World.ownsRow_nil _ _ _ _, ld := by simp [fresh, zeros], n1 := h1, n2 := h2, fit := by simp [fresh, Fits] }
set_option maxRecDepth 100000 in
set_option maxHeartbeats 1600000 in
theorem rnew_ok (n : Nat) (h1 : 1 ≤ n) (h2 : n ≤ 4194304) (w : World) : Calls Try.prog 18 #[.int .i64 n] w (RNew n w) := by
  have hmk := run_make_row' (P := Try.prog) 40 5 (.int .u8 0) 1 rfl info5' rfl .i64 .i64 n (by omega) (by omega)
  go_enter Try.func18, Try.ntmps18
  go_wp2
  go_ret2
  exact rnew_at n h1 h2 w

theorem Fr.none {S : Nat → Prop} {a b : World} (h : Fr (fun _ => False) a b) : Fr S a b := h.mono (fun _ _ e => e.elim)
def RReads (s : St) (n : Nat) (off k : Int) (w : World) (e : Ending) (w' : World) : Prop := e = .returned (.tuple #[.string (readS s n off k).1, .int .i64 (readS s n off k).2]) ∧ Fr (fun _ => False) w w'

section
variable {P : Program}
/-- string(b[off:off+k]) of a row of one's own -/
theorem wp_conv_own {w : World} {o : Oper} {a : Act} {K : Act → World → Prop} {Q : Exit → Act → World → Prop} (x : Operand) (S D : TypeId) (ho : o.op = .convert S D x)
    (e : TypeId) (hs : P.underlying S = some (.slice e)) (he : P.underlying e = some (.int .u8)) (hd : P.underlying D = some .string)
    (ad : Option Addr) (k c : Nat) (hx : a.eval x = .slice ad k c) {base g n cap : Nat} (off : Nat) {cur : Bs} (hg : w.ownsRow base 5 1 (.slice (some ⟨g, 0, none⟩) n cap) n (bvs cur)) (hl : cur.length = n)
    (hpos : 0 < k → ad = some ⟨g, off, none⟩) (hfit : off + k ≤ n)
    (h : K (a.put o.dst (.string ⟨((cur.drop off).take k).toArray⟩)) w) : o.wp P a w K Q := by
  have hrun : (convert S D (.slice ad k c)).run P w = .ok (.string ⟨((cur.drop off).take k).toArray⟩) w := by
    by_cases h0 : k = 0
    · subst h0
      rw [run_convert_bytes_string w S D e ad 0 c hs he hd]
      cases ad with
      | none => simp [Conv.bytesToString]; rfl
      | some ad =>
        rw [run_bytesToString w ad 0 c [] (by simp [loadCells, loadCellsFrom])]
        simp
        rfl
    · obtain rfl := hpos (by omega)
      have hl2 : (((cur.drop off).take k).map fun b => (b.toNat : Int)).length = k := by simp; omega
      rw [run_convert_bytes_arg w S e hs he g off k c (((cur.drop off).take k).map fun b => (b.toNat : Int)) hl2 (fun i hi => by
        rw [hg.cellAt _ (by omega), bvs_get _ _ (by omega)]
        have h1 : i < (cur.drop off).length := by simp; omega
        simp [List.getD, List.getElem?_take, hi, h1]
        rw [List.getElem?_eq_getElem (by omega)]
        rfl) D hd]
      congr 2
      simp only [strOfNums]
      congr 2
      rw [List.map_map]
      conv => rhs; rw [← List.map_id ((cur.drop off).take k)]
      apply List.map_congr_left
      intro b _
      simp
  unfold Oper.wp
  simp [execOp, ho, hx, hrun, Result.andThen]
  exact h
end

set_option maxRecDepth 100000 in
set_option maxHeartbeats 3200000 in
theorem rread_any {w : World} {R n : Nat} {dv pv : Value} {s : St} (h : IsRef w R dv pv n s) (hv : s.vis = lay s.dur s.pend) (hpl : s.pend.length ≤ 1000000) (off k : Int) (ho1 : -9223372036854775808 ≤ off) (ho2 : off ≤ 9223372036854775807) :
    Calls Try.prog 20 #[.pointer (some ⟨R, 0, none⟩), .int .i64 off, .int .i64 k] w (RReads s n off k w) := by
  have n2 := h.n2
  have c2 := h.c2
  have c0 := h.c0
  obtain ⟨g, c, rfl, hg⟩ := h.dform
  have H := hid h
  have HV := hid hv
  clear h hv hg
  cases hs : s.off with
  | true =>
    rw [hs] at c2
    have HS := hid hs
    clear hs
    go_enter Try.func20, Try.ntmps20
    go_wp2
    go_ret2
    exact ⟨by unfold readS; rw [if_pos HS.out]; rfl, Fr.refl _ _⟩
  | false =>
    rw [hs] at c2
    have HS := hid hs
    clear hs
    cases hi : insideB off k n with
    | false =>
      have HI := hid hi
      clear hi
      have hr : RReads s n off k w (.returned (.tuple #[.string ByteArray.empty, .int .i64 90])) w := ⟨by unfold readS; rw [if_neg (by rw [HS.out]; simp), HI.out]; rfl, Fr.refl _ _⟩
      by_cases ha : 0 ≤ off
      · by_cases hb : 0 ≤ k
        · by_cases hc' : off ≤ n
          · by_cases hd : k ≤ n - off
            · have := HI.out
              simp only [insideB, decide_eq_false_iff_not] at this
              exact absurd ⟨ha, hb, hc', hd⟩ this
            · go_enter Try.func20, Try.ntmps20
              go_wp2
              go_ret2
              exact hr
          · go_enter Try.func20, Try.ntmps20
            go_wp2
            go_ret2
            exact hr
        · go_enter Try.func20, Try.ntmps20
          go_wp2
          go_ret2
          exact hr
      · go_enter Try.func20, Try.ntmps20
        go_wp2
        go_ret2
        exact hr
    | true =>
      have hb : 0 ≤ off ∧ 0 ≤ k ∧ off ≤ (n : Int) ∧ k ≤ (n : Int) - off := by simpa [insideB] using hi
      obtain ⟨hb1, hb2, hb3, hb4⟩ := hb
      obtain ⟨o, rfl⟩ := Int.eq_ofNat_of_zero_le hb1
      obtain ⟨m, rfl⟩ := Int.eq_ofNat_of_zero_le hb2
      have hb5 : o + m ≤ n := by omega
      have HI := hid hi
      clear hi
      have HLL := hid (lay_length n s.pend s.dur H.out.ld H.out.fit)
      have HR : Hid (readS s n o m = (⟨((s.vis.drop o).take m).toArray⟩, 0)) := hid (by unfold readS; rw [if_neg (by rw [HS.out]; simp), if_pos HI.out]; simp)
      go_enter Try.func20, Try.ntmps20
      go_wp2_with fail
      refine (visible_any H.out hpl).mono ?_
      rintro e w1 ⟨g1, cap1, rfl, hr1, f1⟩
      have hcc : n ≤ cap1 := by
        rcases hr1.2 with ⟨hv, _⟩ | ⟨g', cap', cur, hv, hb, hgg, h1, h2, _⟩
        · simp at hv
        · injection hv with _ _ hc
          omega
      have hcm : cap1 ≤ maxLen := by
        rcases hr1.2 with ⟨hv, _⟩ | ⟨g', cap', cur, hv, hb, hgg, h1, h2, _⟩
        · simp at hv
        · injection hv with _ _ hc
          omega
      unfold maxLen at hcm
      have ROW := hid hr1
      have F1 := hid f1
      clear hr1 f1
      by_cases hon : o = cap1
      · obtain rfl := hon
        obtain rfl : m = 0 := by omega
        go_wp2_with (refine list_of rfl (wp_conv_own (.tmp 44) 40 9 rfl 5 rfl rfl rfl _ 0 _ (by rfl) o ROW.out HLL.out (fun h => by omega) (by omega) ?_))
        go_ret2
        exact ⟨by rw [HR.out, HV.out]; simp, F1.out⟩
      · have hlt : (o : Int) < (cap1 : Int) := by omega
        have hne : ¬ cap1 = o := by omega
        go_wp2_with (refine list_of rfl (wp_conv_own (.tmp 44) 40 9 rfl 5 rfl rfl rfl _ (o + m - o) _ (by rfl) o ROW.out HLL.out (fun _ => by rfl) (by omega) ?_))
        go_ret2
        exact ⟨by rw [HR.out, HV.out]; simp, F1.out⟩
end Go.Proofs.Ytlnngeafhinpkaa
