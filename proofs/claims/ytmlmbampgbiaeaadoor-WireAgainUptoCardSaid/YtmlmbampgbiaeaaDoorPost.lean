/- The end of a law's contract: what was there reads as it did, and the answer is a Boolean. No condition. -/
import Derived.Test.YtmlmbampgbiaeaaDoorRows
import Derived.WalkKit
import Derived.ProofKit
import Derived.OpenShut
namespace Go.Proofs.YtmlmbampgbiaeaaDoor
open Go.ChangeShapes Go.WideShapes Go.ChangeAt Go.RowKit

theorem post_below {H : Type} {enc : TypeId × Value → H} {P : Program} {f : Func} {s : ChangeSpec} {W W' : World} {args : Array Value} {b : Bool} {ds : List (DataW H)} {ps : List MemPlace} {tb : TypeId}
    (hW : DataW.Whole enc P f.params.toList s.vars false W args.toList ds [] ps) (htb : P.underlying tb = some .bool) (hft : f.resultTypes = #[tb]) (hsv : s.vars = [])
    (hfn : s.fn H (ds ++ []) = { results := [.lit (.bool b)], args := ds })
    (hargs : ∀ sp : Nat → Bool, (∀ p ∈ ps, sp p.block = true) → DataW.TrodAll enc P W' 0 sp true f.params.toList args.toList ds ps)
    (hb : Below W.heap.size W W') : s.post enc P f false true false false W args (.bool b) W' := by
  have hold : ∀ p ∈ ps, (fun b => decide (b < W.heap.size)) p.block = true := fun p hp => by simpa using hW.lt p hp
  refine ⟨ds, [], ps, [], ps, [], hW, ?_, ?_, ?_, hb.frame _, fun h => by cases h⟩
  · rw [hfn, hft]
    exact trodAll_mk1 (shut_bool htb _)
  · rw [hfn]; exact hargs _ hold
  · rw [hsv, hfn]; rfl
end Go.Proofs.YtmlmbampgbiaeaaDoor
