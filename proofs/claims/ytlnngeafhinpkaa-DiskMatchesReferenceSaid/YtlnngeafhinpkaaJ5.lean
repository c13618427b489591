/- Crash of the reference disk. No condition beside the sizes. -/
import Derived.Test.YtlnngeafhinpkaaJ4
set_option linter.unusedVariables false
set_option linter.unusedSimpArgs false
namespace Go.Proofs.Ytlnngeafhinpkaa
open Go.RowKit

/-! ### The writes that a crash keeps -/
def keptAt (p : List (Nat × ByteArray)) (i : Int) : Nat × ByteArray := p[i.toNat]?.getD (0, ByteArray.empty)
def kept (p : List (Nat × ByteArray)) (keep : List Int) (k : Nat) : List (Nat × ByteArray) := (((List.range k).filter fun i : Nat => keep.contains (i : Int)).map fun i : Nat => (i : Int)).map (keptAt p)
theorem kept_true (p : List (Nat × ByteArray)) (keep : List Int) (k : Nat) (hk : k < p.length) (h : keep.contains (k : Int) = true) : kept p keep (k + 1) = kept p keep k ++ [p[k]] := by
  have e : List.filter (fun i : Nat => keep.contains (i : Int)) [k] = [k] := by rw [List.filter_cons, if_pos h]; rfl
  unfold kept
  rw [List.range_succ, List.filter_append, e]
  simp [keptAt, hk]
theorem kept_false (p : List (Nat × ByteArray)) (keep : List Int) (k : Nat) (h : keep.contains (k : Int) = false) : kept p keep (k + 1) = kept p keep k := by
  have e : List.filter (fun i : Nat => keep.contains (i : Int)) [k] = [] := by rw [List.filter_cons, if_neg (by rw [h]; simp)]; rfl
  unfold kept
  rw [List.range_succ, List.filter_append, e, List.append_nil]
theorem kept_all (p : List (Nat × ByteArray)) (keep : List Int) : kept p keep p.length = (ordS p.length keep).map (keptAt p) := by rw [ord_eq]; rfl
theorem kept_le (p : List (Nat × ByteArray)) (keep : List Int) (k : Nat) : (kept p keep k).length ≤ k := by
  unfold kept
  rw [List.length_map, List.length_map]
  exact Nat.le_trans (List.length_filter_le _ _) (by rw [List.length_range]; exact Nat.le_refl _)
theorem kept_fits {n : Nat} {p : List (Nat × ByteArray)} (hf : Fits n p) (keep : List Int) : Fits n (kept p keep p.length) := by
  intro x hx
  unfold kept at hx
  simp only [List.mem_map, List.mem_filter, List.mem_range] at hx
  obtain ⟨i, ⟨j, ⟨hj, _⟩, rfl⟩, rfl⟩ := hx
  have : keptAt p (j : Int) = p[j] := by simp [keptAt, hj]
  rw [this]
  exact hf _ (List.getElem_mem hj)
theorem apTo_kept (p : List (Nat × ByteArray)) (keep : List Int) (torn : Int) (d : Bs) (k : Nat) (hk : k < (kept p keep p.length).length) :
    apTo p torn (ordS p.length keep) d (k + 1) = put (apTo p torn (ordS p.length keep) d k) (kept p keep p.length)[k].1 (tornS (kept p keep p.length).length k torn (kept p keep p.length)[k].2).data.toList := by
  have e := kept_all p keep
  have hl : (kept p keep p.length).length = (ordS p.length keep).length := by rw [e, List.length_map]
  have hk2 : k < (ordS p.length keep).length := by omega
  have e2 : (kept p keep p.length)[k] = keptAt p ((ordS p.length keep)[k]?.getD 0) := by
    have : (kept p keep p.length)[k]? = some (keptAt p ((ordS p.length keep)[k]?.getD 0)) := by rw [e]; simp [hk2]
    rw [List.getElem?_eq_getElem hk] at this
    exact Option.some.inj this
  rw [e2, hl]
  rfl
theorem apTo_len {n : Nat} (p : List (Nat × ByteArray)) (keep : List Int) (torn : Int) (d : Bs) (hd : d.length = n) (hf : Fits n p) : ∀ k, k ≤ (kept p keep p.length).length → (apTo p torn (ordS p.length keep) d k).length = n
  | 0, _ => hd
  | k + 1, h => by
    have ih := apTo_len p keep torn d hd hf k (by omega)
    rw [apTo_kept p keep torn d k (by omega)]
    have h1 := kept_fits hf keep _ (List.getElem_mem (show k < (kept p keep p.length).length by omega))
    have h2 := tornS_size (kept p keep p.length).length k torn (kept p keep p.length)[k].2
    rw [put_length]
    · exact ih
    · have h3 : ∀ b : ByteArray, b.data.toList.length = b.size := fun b => by rw [Array.length_toList]; rfl
      rw [ih, h3]
      omega
theorem kept_view (s : St) (keep : List Int) (torn : Int) {n : Nat} (hd : s.dur.length = n) (hf : Fits n s.pend) : ∃ A : Nat → Bs, A 0 = s.dur ∧
    (∀ k (hk : k < (kept s.pend keep s.pend.length).length), A (k + 1) = put (A k) (kept s.pend keep s.pend.length)[k].1 (tornS (kept s.pend keep s.pend.length).length k torn (kept s.pend keep s.pend.length)[k].2).data.toList) ∧
    (∀ k, k ≤ (kept s.pend keep s.pend.length).length → (A k).length = n) ∧
    crashS s keep torn = { off := false, left := 0, dur := A (kept s.pend keep s.pend.length).length, vis := A (kept s.pend keep s.pend.length).length, pend := [] } :=
  ⟨apTo s.pend torn (ordS s.pend.length keep) s.dur, rfl, fun k hk => apTo_kept s.pend keep torn s.dur k hk, fun k hk => apTo_len s.pend keep torn s.dur hd hf k hk, by rw [kept_all, List.length_map]; rfl⟩
theorem torn_yes (len k t : Nat) (str : ByteArray) (h : k + 1 = len) (ht : t < str.size) : tornS len k (t : Int) str = str.extract 0 t := by
  unfold tornS
  rw [if_pos (by omega)]
  congr 1
  omega
theorem torn_last (len k : Nat) (torn : Int) (str : ByteArray) (h : k + 1 ≠ len) : tornS len k torn str = str := by
  unfold tornS
  rw [if_neg (by omega)]
theorem torn_neg (len k : Nat) (torn : Int) (str : ByteArray) (h : torn < 0) : tornS len k torn str = str := by
  unfold tornS
  rw [if_neg (by omega)]
theorem torn_long (len k : Nat) (torn : Int) (str : ByteArray) (h : str.size ≤ torn) : tornS len k torn str = str := by
  unfold tornS
  split
  · rw [show min torn (str.size : Int) = str.size by omega]
    exact ByteArray.extract_zero_size
  · rfl
theorem own_at80 {w : World} {base : Nat} {a : Option Addr} {c : Nat} {p : List (Nat × ByteArray)} (h : w.ownsRow base 80 2 (.slice a p.length c) p.length (pcells p)) (k : Nat) (hk : k < p.length) :
    ∃ g, a = some ⟨g, 0, none⟩ ∧ w.cell? ⟨g, k * 2, none⟩ = some (.int .i64 (p[k]).1) ∧ w.cell? ⟨g, k * 2 + 1, none⟩ = some (.string (p[k]).2) := by
  obtain ⟨g, cap, e, _, h2⟩ := h.form (by omega)
  injection e with e1 _ e2
  subst e1 e2
  obtain ⟨p1, p2⟩ := pcells_get p k hk
  exact ⟨g, rfl, by rw [h.cellAt _ (by omega)]; exact p1, by rw [h.cellAt _ (by omega)]; exact p2⟩
theorem keeps_fr {w wr : World} {kp : Value} {ks : List Int} (h : Keeps w kp ks) {S : Nat → Prop} (hf : Fr S w wr) (hS : ∀ k, ¬ S k) : Keeps wr kp ks := by
  obtain ⟨a, c, rfl, hc⟩ := h
  refine ⟨a, c, rfl, fun hp => ?_⟩
  obtain ⟨b, o, ha, hb, hx⟩ := hc hp
  exact ⟨b, o, ha, Nat.lt_of_lt_of_le hb hf.size, fun j hj => (World.cell?_of_block (hf.block b hb (hS b))).trans (hx j hj)⟩
theorem IsRef.dur' {w w2 : World} {R n g c : Nat} {pv : Value} {s : St} (h : IsRef w R (.slice (some ⟨g, 0, none⟩) n c) pv n s) (f : Fr (fun k => k = g) w w2) (d : Bs) (hd : w2.ownsRow 0 5 1 (.slice (some ⟨g, 0, none⟩) n c) n (bvs d)) (hl : d.length = n) :
    IsRef w2 R (.slice (some ⟨g, 0, none⟩) n c) pv n { s with dur := d } where
  hR := (f.block R h.lR (fun e => h.nd (by rw [e]; rfl))).trans h.hR
  hd := hd
  hp := own_kept h.hp (fun k e => f.block k (own_base h.hp k e).2 (fun e' => h.dp g rfl (by rw [← e']; exact e)))
  ld := hl
  n1 := h.n1
  n2 := h.n2
  fit := h.fit
end Go.Proofs.Ytlnngeafhinpkaa
