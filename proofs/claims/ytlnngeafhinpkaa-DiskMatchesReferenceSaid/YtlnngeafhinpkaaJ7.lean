/- The disk beside the reference disk; the states that both keep. No condition beside the sizes. -/
import Derived.Test.YtlnngeafhinpkaaJ6
set_option linter.unusedVariables false
set_option linter.unusedSimpArgs false
namespace Go.Proofs.Ytlnngeafhinpkaa
open Go.RowKit

def Two (K : Nat → Prop) (w : World) (B bd bv R n : Nat) (s t : St) : Prop :=
  ∃ pv dv rp, IsDisk w B bd bv pv n s ∧ IsRef w R dv rp n t ∧ (∀ k, Foot B bd bv pv k → ¬ K k ∧ ¬ RFoot R dv rp k) ∧ ∀ k, RFoot R dv rp k → ¬ K k
def TwoR (K : Nat → Prop) (w : World) (B bd bv R n : Nat) (r : Value) (s t : St) (e : Ending) (w' : World) : Prop := e = .returned r ∧ Two K w' B bd bv R n s t ∧ Fr (fun k => ¬ K k) w w'
section
variable {K : Nat → Prop} {w : World} {B bd bv R n : Nat} {s t : St}
theorem two_disk (h : Two K w B bd bv R n s t) (hb : ∀ k, K k → k < w.heap.size) {f : FuncId} {args : Array Value} {r : Value} {s' : St} (hd : ∀ pv, IsDisk w B bd bv pv n s → Calls Try.prog f args w (Did w B bd bv pv n r s')) :
    Calls Try.prog f args w (TwoR K w B bd bv R n r s' t) := by
  obtain ⟨pv, dv, rp, h1, h2, h3, h4⟩ := h
  refine (hd pv h1).mono ?_
  rintro e w' ⟨he, ⟨pv', d', hpv⟩, fr⟩
  refine ⟨he, ⟨pv', dv, rp, d', h2.frame fr (fun k hk hf => (h3 k hf).2 hk), ?_, h4⟩, fr.mono (fun k _ hf => (h3 k hf).1)⟩
  intro k hk
  have : Foot B bd bv pv k ∨ w.heap.size ≤ k := by
    rcases hk with e | e | e | e
    · exact .inl (.inl e)
    · exact .inl (.inr (.inl e))
    · exact .inl (.inr (.inr (.inl e)))
    · rcases hpv with hpv | ⟨j, hj, hlt⟩
      · exact .inl (.inr (.inr (.inr (by rw [← hpv]; exact e))))
      · rw [hj] at e
        injection e with e
        exact .inr (by omega)
  rcases this with e | e
  · exact h3 k e
  · exact ⟨fun hk => by have := hb k hk; omega, fun hk => by have := h2.lt k hk; omega⟩
theorem two_ref (h : Two K w B bd bv R n s t) (hb : ∀ k, K k → k < w.heap.size) {f : FuncId} {args : Array Value} {r : Value} {t' : St} (hd : ∀ dv rp, IsRef w R dv rp n t → Calls Try.prog f args w (RDid w R dv rp n r t')) :
    Calls Try.prog f args w (TwoR K w B bd bv R n r s t') := by
  obtain ⟨pv, dv, rp, h1, h2, h3, h4⟩ := h
  refine (hd dv rp h2).mono ?_
  rintro e w' ⟨he, ⟨dv', rp', d', hpv⟩, fr⟩
  refine ⟨he, ⟨pv, dv', rp', h1.frame fr (fun k hk hf => (h3 k hk).2 hf), d', ?_, ?_⟩, fr.mono (fun k _ hf => h4 k hf)⟩
  · intro k hk
    refine ⟨(h3 k hk).1, fun hr => ?_⟩
    rcases hpv k hr with e | e
    · exact (h3 k hk).2 e
    · have := h1.lt k hk
      omega
  · intro k hr hk
    rcases hpv k hr with e | e
    · exact h4 k e hk
    · have := hb k hk
      omega
theorem Two.frame {w' : World} {S : Nat → Prop} (h : Two K w B bd bv R n s t) (hf : Fr S w w') (hS : ∀ k, S k → K k) : Two K w' B bd bv R n s t := by
  obtain ⟨pv, dv, rp, h1, h2, h3, h4⟩ := h
  exact ⟨pv, dv, rp, h1.frame hf (fun k hk hs => (h3 k hk).1 (hS k hs)), h2.frame hf (fun k hk hs => h4 k hk (hS k hs)), h3, h4⟩
theorem Two.box (h : Two K w B bd bv R n s t) (o : Obj) : Two (fun k => K k ∨ k = w.heap.size) (w.alloc o) B bd bv R n s t := by
  obtain ⟨pv, dv, rp, h1, h2, h3, h4⟩ := h
  refine ⟨pv, dv, rp, h1.alloc o, h2.alloc o, fun k hk => ⟨?_, (h3 k hk).2⟩, fun k hk => ?_⟩
  · rintro (e | e)
    · exact (h3 k hk).1 e
    · have := h1.lt k hk; omega
  · rintro (e | e)
    · exact h4 k hk e
    · have := h2.lt k hk; omega
theorem Two.less {K' : Nat → Prop} (h : Two K w B bd bv R n s t) (hK : ∀ k, K' k → K k) : Two K' w B bd bv R n s t := by
  obtain ⟨pv, dv, rp, h1, h2, h3, h4⟩ := h
  exact ⟨pv, dv, rp, h1, h2, fun k hk => ⟨fun e => (h3 k hk).1 (hK k e), (h3 k hk).2⟩, fun k hk e => h4 k hk (hK k e)⟩
theorem two_write (h : Two K w B bd bv R n s t) (hb : ∀ k, K k → k < w.heap.size) (off : Int) (str : ByteArray) (ho1 : -9223372036854775808 ≤ off) (ho2 : off ≤ 9223372036854775807)
    (hl : 0 ≤ s.left ∧ s.left ≤ 9223372036854775807) (hp : s.pend.length ≤ 1000000) (hsz : str.size ≤ 9223372036854775807) :
    Calls Try.prog 21 #[.pointer (some ⟨B, 0, none⟩), .int .i64 off, .string str] w (TwoR K w B bd bv R n (.int .i64 (writeS s n off str).1) (writeS s n off str).2 t) :=
  two_disk h hb fun pv hd => write_any hd off str ho1 ho2 hl hp hsz
theorem two_rwrite (h : Two K w B bd bv R n s t) (hb : ∀ k, K k → k < w.heap.size) (off : Int) (str : ByteArray) (ho1 : -9223372036854775808 ≤ off) (ho2 : off ≤ 9223372036854775807)
    (hl : 0 ≤ t.left ∧ t.left ≤ 9223372036854775807) (hp : t.pend.length ≤ 1000000) (hsz : str.size ≤ 9223372036854775807) :
    Calls Try.prog 30 #[.pointer (some ⟨R, 0, none⟩), .int .i64 off, .string str] w (TwoR K w B bd bv R n (.int .i64 (writeS t n off str).1) s (writeS t n off str).2) :=
  two_ref h hb fun dv rp hd => rwrite_any hd hp off str ho1 ho2 hl hsz
theorem two_sync (h : Two K w B bd bv R n s t) (hb : ∀ k, K k → k < w.heap.size) :
    Calls Try.prog 23 #[.pointer (some ⟨B, 0, none⟩)] w (TwoR K w B bd bv R n (.int .i64 (syncS s).1) (syncS s).2 t) := two_disk h hb fun pv hd => sync_any hd
theorem two_rsync (h : Two K w B bd bv R n s t) (hb : ∀ k, K k → k < w.heap.size) (hv : t.vis = lay t.dur t.pend) (hp : t.pend.length ≤ 1000000) :
    Calls Try.prog 31 #[.pointer (some ⟨R, 0, none⟩)] w (TwoR K w B bd bv R n (.int .i64 (syncS t).1) s (syncS t).2) := two_ref h hb fun dv rp hd => rsync_any hd hv hp
theorem two_cut (h : Two K w B bd bv R n s t) (hb : ∀ k, K k → k < w.heap.size) (k : Int) :
    Calls Try.prog 24 #[.pointer (some ⟨B, 0, none⟩), .int .i64 k] w (TwoR K w B bd bv R n (.int .i64 (cutS s k).1) (cutS s k).2 t) := two_disk h hb fun pv hd => cut_any hd k
theorem two_rcut (h : Two K w B bd bv R n s t) (hb : ∀ k, K k → k < w.heap.size) (k : Int) :
    Calls Try.prog 32 #[.pointer (some ⟨R, 0, none⟩), .int .i64 k] w (TwoR K w B bd bv R n (.int .i64 (cutS t k).1) s (cutS t k).2) := two_ref h hb fun dv rp hd => rcut_any hd k
theorem two_crash (h : Two K w B bd bv R n s t) (hb : ∀ k, K k → k < w.heap.size) (hf : Fits n s.pend) (hpl : s.pend.length ≤ 1000000) (kp : Value) (keep : List Int) (hk : Keeps w kp keep) (hkl : keep.length ≤ 1000000) (torn : Int) (ht1 : -9223372036854775808 ≤ torn) (ht2 : torn ≤ 9223372036854775807) :
    Calls Try.prog 25 #[.pointer (some ⟨B, 0, none⟩), kp, .int .i64 torn] w (TwoR K w B bd bv R n (.int .i64 0) (crashS s keep torn) t) := two_disk h hb fun pv hd => crash_any hd hf hpl kp keep hk hkl torn ht1 ht2
theorem two_rcrash (h : Two K w B bd bv R n s t) (hb : ∀ k, K k → k < w.heap.size) (hpl : t.pend.length ≤ 1000000) (kp : Value) (keep : List Int) (hk : Keeps w kp keep) (hkl : keep.length ≤ 1000000) (torn : Int) (ht1 : -9223372036854775808 ≤ torn) (ht2 : torn ≤ 9223372036854775807) :
    Calls Try.prog 33 #[.pointer (some ⟨R, 0, none⟩), kp, .int .i64 torn] w (TwoR K w B bd bv R n (.tuple #[]) s (crashS t keep torn)) := two_ref h hb fun dv rp hd => rcrash_any hd hpl kp keep hk hkl torn ht1 ht2
theorem two_read (h : Two K w B bd bv R n s t) (off k : Int) (ho1 : -9223372036854775808 ≤ off) (ho2 : off ≤ 9223372036854775807) :
    Calls Try.prog 14 #[.pointer (some ⟨B, 0, none⟩), .int .i64 off, .int .i64 k] w fun e w' => e = .returned (.tuple #[.string (readS s n off k).1, .int .i64 (readS s n off k).2]) ∧ w = w' := by
  obtain ⟨pv, dv, rp, h1, _⟩ := h
  exact read_any h1 off k ho1 ho2
theorem two_rread (h : Two K w B bd bv R n s t) (hv : t.vis = lay t.dur t.pend) (hp : t.pend.length ≤ 1000000) (off k : Int) (ho1 : -9223372036854775808 ≤ off) (ho2 : off ≤ 9223372036854775807) :
    Calls Try.prog 20 #[.pointer (some ⟨R, 0, none⟩), .int .i64 off, .int .i64 k] w (TwoR K w B bd bv R n (.tuple #[.string (readS t n off k).1, .int .i64 (readS t n off k).2]) s t) := by
  have h0 := h
  obtain ⟨pv, dv, rp, h1, h2, _⟩ := h
  refine (rread_any h2 hv hp off k ho1 ho2).mono ?_
  rintro e w' ⟨rfl, f⟩
  exact ⟨rfl, h0.frame f (fun _ e => e.elim), f.none⟩
theorem two_size (h : Two K w B bd bv R n s t) : Calls Try.prog 16 #[.pointer (some ⟨B, 0, none⟩)] w fun e w' => e = .returned (.int .i64 n) ∧ w = w' := by
  obtain ⟨pv, dv, rp, h1, _⟩ := h
  exact size_any B w _ n n h1.c2
theorem two_pending (h : Two K w B bd bv R n s t) : Calls Try.prog 17 #[.pointer (some ⟨B, 0, none⟩)] w fun e w' => e = .returned (.int .i64 s.pend.length) ∧ w = w' := by
  obtain ⟨pv, dv, rp, h1, _⟩ := h
  obtain ⟨a, c, rfl, _⟩ := h1.shape
  exact pending_any B w _ _ _ h1.c4
theorem Two.c1 (h : Two K w B bd bv R n s t) : ∃ a c, w.cell? ⟨R, 1, none⟩ = some (.slice a t.pend.length c) := by
  obtain ⟨pv, dv, rp, h1, h2, _⟩ := h
  obtain ⟨a, c, rfl, _⟩ := h2.pform
  exact ⟨a, c, h2.c1⟩
end

/-! ### The states -/
structure Inv (n : Nat) (s : St) (j : Nat) : Prop where
  vis : s.vis = lay s.dur s.pend
  fit : Fits n s.pend
  l1 : 0 ≤ s.left
  l2 : s.left ≤ 9223372036854775807
  pl : s.pend.length ≤ j
theorem Inv.start (n : Nat) : Inv n (fresh n) 0 := ⟨rfl, by simp [fresh, Fits], by simp [fresh], by simp [fresh], by simp [fresh]⟩
theorem Inv.up {n : Nat} {s : St} {j : Nat} (h : Inv n s j) : Inv n s (j + 1) := ⟨h.vis, h.fit, h.l1, h.l2, by have := h.pl; omega⟩
theorem Inv.write {n : Nat} {s : St} {j : Nat} (h : Inv n s j) (off : Int) (str : ByteArray) : Inv n (writeS s n off str).2 (j + 1) := by
  unfold writeS
  split
  · exact h.up
  · split
    · rename_i hi
      have hb : 0 ≤ off ∧ 0 ≤ (str.size : Int) ∧ off ≤ (n : Int) ∧ str.size ≤ (n : Int) - off := by simpa [insideB] using hi
      have hv : put s.vis off.toNat str.data.toList = lay s.dur (s.pend ++ [(off.toNat, str)]) := by rw [lay_snoc, ← h.vis]
      have hf : Fits n (s.pend ++ [(off.toNat, str)]) := by
        intro y hy
        simp only [List.mem_append, List.mem_singleton] at hy
        rcases hy with hy | rfl
        · exact h.fit y hy
        · dsimp only; omega
      have hp : (s.pend ++ [(off.toNat, str)]).length ≤ j + 1 := by have := h.pl; simp; omega
      have h1 := h.l1
      have h2 := h.l2
      dsimp only
      unfold wrote used
      dsimp only
      split
      · exact ⟨hv, hf, h1, h2, hp⟩
      · rename_i hne
        exact ⟨hv, hf, by dsimp only; omega, by dsimp only; omega, hp⟩
    · exact h.up
theorem Inv.sync {n : Nat} {s : St} {j : Nat} (h : Inv n s j) : Inv n (syncS s).2 (j + 1) := by
  unfold syncS
  split
  · exact h.up
  · exact ⟨rfl, by simp [Fits], h.l1, h.l2, by simp⟩
theorem Inv.cut {n : Nat} {s : St} {j : Nat} (h : Inv n s j) (k : Int) (hk : k ≤ 9223372036854775807) : Inv n (cutS s k).2 (j + 1) := by
  unfold cutS
  split
  · exact h.up
  · split
    · exact h.up
    · exact ⟨h.vis, h.fit, by dsimp only; omega, hk, by have := h.pl; dsimp only; omega⟩
theorem Inv.crash {n : Nat} {s : St} {j : Nat} (keep : List Int) (torn : Int) : Inv n (crashS s keep torn) j := ⟨rfl, by simp [crashS, Fits], by simp [crashS], by simp [crashS], by simp [crashS]⟩

/-- The numbers that a crash is given, in memory that K keeps. -/
def Kp (K : Nat → Prop) (w : World) (kv : Value) (ks : List Int) : Prop :=
  ∃ a c, kv = .slice a ks.length c ∧ ks.length ≤ c ∧ c ≤ 9223372036854775807 ∧ (0 < ks.length → ∃ b o, a = some ⟨b, o, none⟩ ∧ K b ∧ ∀ j, j < ks.length → w.cell? ⟨b, o + j, none⟩ = some (.int .i64 (ks[j]?.getD 0)))
theorem Kp.keeps {K : Nat → Prop} {w wr : World} {a : Option Addr} {c : Nat} {ks : List Int} {l : Nat} (h : Kp K w (.slice a l c) ks) (hb : ∀ k, K k → k < w.heap.size) (hf : Fr (fun k => ¬ K k) w wr) (m : Nat) (hm : m = min 100 ks.length) :
    Keeps wr (.slice a m c) (ks.take 100) := by
  obtain ⟨a', c', e, h1, h2, h3⟩ := h
  injection e with e1 e2 e3
  subst e1 e3
  refine ⟨a, c, by rw [List.length_take, hm], fun hp => ?_⟩
  rw [List.length_take] at hp
  obtain ⟨b, o, ha, hK, hx⟩ := h3 (by omega)
  refine ⟨b, o, ha, Nat.lt_of_lt_of_le (hb b hK) hf.size, fun j hj => ?_⟩
  rw [List.length_take] at hj
  rw [World.cell?_of_block (a := ⟨b, o + j, none⟩) (hf.block b (hb b hK) (fun e => e hK)), hx j (by omega), List.getElem?_take_of_lt (by omega)]
end Go.Proofs.Ytlnngeafhinpkaa
