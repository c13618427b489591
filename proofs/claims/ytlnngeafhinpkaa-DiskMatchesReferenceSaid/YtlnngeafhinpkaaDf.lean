/- The frame of a statement that a law answers true: what its arguments read as is unchanged where the call leaves old memory alone. -/
import Derived.Test.YtlnngeafhinpkaaRows
import Derived.Test.YtlnngeafhinpkaaDe
import Derived.ProofKit
import Derived.OpenShut
set_option linter.unusedVariables false
namespace Go.Proofs.Ytlnngeafhinpkaa
open Go.ChangeShapes Go.WideShapes Go.ChangeAt Go.RowKit

theorem trodAll_below {H : Type} {enc : TypeId × Value → H} {P : Program} (hl : laidOutB P = true) {W W' : World} (hb : Below W.heap.size W W') :
    ∀ (ts : List TypeId) (vs : List Value) (ds : List (DataW H)) (p : List MemPlace), (∀ t ∈ ts, P.readableRec t = true ∧ t < P.types.size) → (∀ x ∈ p, x.block < W.heap.size) →
      DataW.TrodAll enc P W 0 (fun _ => true) true ts vs ds p → DataW.TrodAll enc P W' 0 (fun b => decide (b < W.heap.size)) true ts vs ds p
  | [], vs, ds, p, _, _, h => by
    obtain ⟨rfl, rfl, rfl⟩ := trodAll_nil h
    exact trodAll_mk0
  | t :: ts, vs, ds, p, hr, hp, h => by
    obtain ⟨v, vs', d, ds', p0, q0, rfl, rfl, rfl, h0, r0⟩ := trodAll_cons h
    have h0' := Below.trod hl (hr t (by simp)).1 (hr t (by simp)).2 h0 hb (fun x hx => hp x (by simp [hx]))
    exact trodAll_cons_mk h0' (trodAll_below hl hb ts vs' ds' q0 (fun t ht => hr t (by simp [ht])) (fun x hx => hp x (by simp [hx])) r0)

theorem laidOut : laidOutB Try.prog = true := by kernel_rfl

/-- What a law leaves: true, and old memory as it was. -/
theorem law_post {H : Type} {enc : TypeId × Value → H} {fn : Func} {s : ChangeSpec} {apart : Bool} {W W' : World} {args : Array Value} {ds : List (DataW H)} {p : List MemPlace} {e : Ending}
    (hv : s.vars = []) (hres : fn.resultTypes = #[4]) (hs : (s.fn H (ds ++ [])).results = [.lit (.bool true)]) (ha : (s.fn H (ds ++ [])).args = ds) (hgv : (s.fn H (ds ++ [])).vars = [])
    (hr : ∀ t ∈ fn.params.toList, Try.prog.readableRec t = true ∧ t < Try.prog.types.size)
    (hW : DataW.Whole enc Try.prog fn.params.toList s.vars apart W args.toList ds [] p) (hA : DataW.TrodAll enc Try.prog W 0 (fun _ => true) true fn.params.toList args.toList ds p)
    (h : True1 W e W') : ∃ v, e = .returned v ∧ ChangeSpec.post enc Try.prog fn s apart true false false W args v W' := by
  obtain ⟨rfl, hb⟩ := h
  refine ⟨_, rfl, ds, [], p, [], p, [], hW, ?_, ?_, ?_, ?_, fun h => by cases h⟩
  · rw [hs, hres]
    exact trodAll_cons_mk (shut_bool Try.underlying4 _) trodAll_mk0
  · rw [ha]
    exact trodAll_below laidOut hb _ _ _ _ hr (fun x hx => hW.lt x hx) hA
  · rw [hv, hgv]
    exact rfl
  · exact hb.frame _
end Go.Proofs.Ytlnngeafhinpkaa
