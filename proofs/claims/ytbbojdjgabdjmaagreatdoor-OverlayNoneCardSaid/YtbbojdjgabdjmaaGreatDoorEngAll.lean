/- The abstract evaluator, soundness 15: all code, all calls. -/
import Derived.Test.YtbbojdjgabdjmaaGreatDoorEngRange2
namespace Go.Eng
open Go Go.RowKit

theorem ev_ok {C : Cx} {P : Program} {drawn : Drawn} (hC : CxOk C P) (hD : DrawnOk P drawn) (hg : GamOk C P)
    (hrange : ∀ K, (∀ j, j < K → CallOk P (ev C drawn j).call) → RangeOk C P drawn K) : ∀ K, CodeOk P (ev C drawn K).code ∧ CallOk P (ev C drawn K).call := by
  intro K
  induction K using Nat.strongRecOn with
  | _ K ih =>
    have hcode : ∀ j, j < K → CodeOk P (ev C drawn j).code := fun j hj => (ih j hj).1
    have hcall : ∀ j, j < K → CallOk P (ev C drawn j).call := fun j hj => (ih j hj).2
    refine ⟨code_step hC hD hcode hcall (fun j hj => roundV_ok (hcode j hj)) (hrange K hcall), ?_⟩
    cases K with
    | zero => intro f args h v h' e; cases e
    | succ K => exact callEv_ok hC hg (hcode K (Nat.lt_succ_self K))
end Go.Eng
