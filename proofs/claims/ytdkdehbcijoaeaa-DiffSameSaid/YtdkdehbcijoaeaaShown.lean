/- The closed run that begins each statement of this seat answers true, and leaves all that was there as it was: no conditions. -/
import Derived.Test.YtdkdehbcijoaeaaCx
import Derived.KernelRfl
namespace Go.Proofs
open Go Go.Eng
set_option maxRecDepth 100000
theorem Try.shownV : closedV ((ev Try.cx (drawnV Try.cx) 3000).call 5 [] h0) = .ok (.bool true) := by kernel_rfl
theorem Try.cxOk : CxOk Try.cx Try.prog := cxOk_of (by kernel_rfl) (by kernel_rfl) (by kernel_rfl) (by kernel_rfl) (by kernel_rfl) (by kernel_rfl) (by kernel_rfl) (by kernel_rfl)
theorem Try.noGam : GamOk Try.cx Try.prog := fun f g h => by cases h
theorem Try.shown (w : World) : Calls Try.prog 5 #[] w fun e w' => e = .returned (.bool true) ∧ RowKit.Below w.heap.size w w' := by
  have h := closed_ok Try.cxOk Try.noGam noRange (f := 5) (fn := Try.f5) (by kernel_rfl) (by kernel_rfl) (args := []) trivial Try.shownV w
  exact h.mono fun e w' ⟨ι', he, hb⟩ => ⟨he, hb⟩
end Go.Proofs
