/- The closed run that begins each statement of this seat answers true, and leaves all that was there as it was: no conditions. -/
import Derived.Test.YtdkdehbcijoaeaaEngMemo
import Derived.Test.YtdkdehbcijoaeaaCx
import Derived.KernelRfl
namespace Go.Proofs
open Go Go.Eng
set_option maxRecDepth 100000
theorem Try.cxOk0 : CxOk Try.cx Try.prog := cxOk_of (by kernel_rfl) (by kernel_rfl) (by kernel_rfl) (by kernel_rfl) (by kernel_rfl) (by kernel_rfl) (by kernel_rfl) (by kernel_rfl)
theorem Try.noGam : GamOk Try.cx Try.prog := fun f g h => by cases h
theorem Try.memo0 : memoV Try.cx 65 5 3000 [97] = .ok [202, 151, 129, 18, 202, 27, 189, 202, 250, 194, 49, 179, 154, 35, 220, 77, 167, 134, 239, 248, 20, 124, 78, 114, 185, 128, 119, 133, 175, 238, 72, 187] := by kernel_rfl
theorem Try.memo1 : memoV Try.cx 65 5 3000 [98] = .ok [62, 35, 232, 22, 0, 57, 89, 74, 51, 137, 79, 101, 100, 225, 177, 52, 139, 189, 122, 0, 136, 212, 44, 74, 203, 115, 238, 174, 213, 156, 0, 157] := by kernel_rfl
theorem Try.memo2 : memoV Try.cx 65 5 3000 [76, 4, 2, 97, 2, 49, 2, 98, 2, 50] = .ok [176, 74, 231, 112, 99, 83, 252, 246, 136, 175, 158, 102, 110, 192, 157, 13, 70, 29, 193, 108, 23, 91, 213, 139, 67, 203, 36, 251, 103, 92, 23, 3] := by kernel_rfl
theorem Try.memo3 : memoV Try.cx 65 5 3000 [76, 4, 2, 97, 2, 49, 2, 98, 2, 53] = .ok [166, 239, 103, 204, 99, 176, 240, 111, 167, 68, 162, 64, 42, 117, 254, 0, 14, 167, 16, 19, 78, 137, 191, 100, 137, 25, 80, 160, 41, 245, 167, 50] := by kernel_rfl
noncomputable def Try.sums : List (List Nat × List Nat) := [([97], [202, 151, 129, 18, 202, 27, 189, 202, 250, 194, 49, 179, 154, 35, 220, 77, 167, 134, 239, 248, 20, 124, 78, 114, 185, 128, 119, 133, 175, 238, 72, 187]), ([98], [62, 35, 232, 22, 0, 57, 89, 74, 51, 137, 79, 101, 100, 225, 177, 52, 139, 189, 122, 0, 136, 212, 44, 74, 203, 115, 238, 174, 213, 156, 0, 157]), ([76, 4, 2, 97, 2, 49, 2, 98, 2, 50], [176, 74, 231, 112, 99, 83, 252, 246, 136, 175, 158, 102, 110, 192, 157, 13, 70, 29, 193, 108, 23, 91, 213, 139, 67, 203, 36, 251, 103, 92, 23, 3]), ([76, 4, 2, 97, 2, 49, 2, 98, 2, 53], [166, 239, 103, 204, 99, 176, 240, 111, 167, 68, 162, 64, 42, 117, 254, 0, 14, 167, 16, 19, 78, 137, 191, 100, 137, 25, 80, 160, 41, 245, 167, 50])]
theorem Try.sumsOk : ∀ p ∈ Try.sums, memoV Try.cx 65 5 3000 p.1 = .ok p.2 := (List.forall_mem_cons.2 ⟨Try.memo0, (List.forall_mem_cons.2 ⟨Try.memo1, (List.forall_mem_cons.2 ⟨Try.memo2, (List.forall_mem_cons.2 ⟨Try.memo3, (fun _ hp => nomatch hp)⟩)⟩)⟩)⟩)
noncomputable def Try.cxm : Cx := Try.cx.memo 65 5 Try.sums
theorem Try.cxOk : CxOk Try.cxm Try.prog := memo_cx Try.cxOk0
theorem Try.gamOk : GamOk Try.cxm Try.prog := memo_gam Try.cxOk0 Try.noGam (f := 65) (fn := Try.f65) (by kernel_rfl) (by kernel_rfl) Try.sumsOk
theorem Try.shownV : closedV ((ev Try.cxm (drawnV Try.cxm) 3000).call 5 [] h0) = .ok (.bool true) := by kernel_rfl
theorem Try.shown (w : World) : Calls Try.prog 5 #[] w fun e w' => e = .returned (.bool true) ∧ RowKit.Below w.heap.size w w' := by
  have h := closed_ok Try.cxOk Try.gamOk (f := 5) (fn := Try.f5) (by kernel_rfl) (by kernel_rfl) (args := []) trivial Try.shownV w
  exact h.mono fun e w' ⟨_, he, hb⟩ => ⟨he, hb⟩
end Go.Proofs
