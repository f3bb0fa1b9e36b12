/- The document's SHA-256 of some texts, by the kernel: no conditions. -/
import Derived.Test.YtbbojdjgabdjmaaGreatDoorCx
import Derived.KernelRfl
namespace Go.Proofs
open Go Go.Eng
set_option maxRecDepth 100000
theorem Tryz.memo0 : memoV Tryz.cx0 212 5 3000 [76, 0] = .ok [31, 111, 82, 121, 115, 162, 29, 76, 125, 107, 22, 71, 110, 244, 245, 123, 67, 59, 19, 0, 65, 171, 159, 229, 16, 15, 183, 44, 147, 6, 108, 158] := by kernel_rfl
theorem Tryz.memo1 : memoV Tryz.cx0 212 5 3000 [98] = .ok [62, 35, 232, 22, 0, 57, 89, 74, 51, 137, 79, 101, 100, 225, 177, 52, 139, 189, 122, 0, 136, 212, 44, 74, 203, 115, 238, 174, 213, 156, 0, 157] := by kernel_rfl
theorem Tryz.memo2 : memoV Tryz.cx0 212 5 3000 [76, 2, 2, 98, 68, 2, 49, 49, 49, 49, 49, 49, 49, 49, 49, 49, 49, 49, 49, 49, 49, 49, 49, 49, 49, 49, 49, 49, 49, 49, 49, 49, 49, 49, 49, 49, 49, 49, 2] = .ok [145, 115, 96, 60, 12, 14, 221, 214, 205, 108, 20, 200, 188, 79, 13, 252, 177, 92, 188, 53, 159, 19, 47, 220, 93, 71, 203, 6, 159, 28, 245, 167] := by kernel_rfl
theorem Tryz.memo3 : memoV Tryz.cx0 212 5 3000 [97] = .ok [202, 151, 129, 18, 202, 27, 189, 202, 250, 194, 49, 179, 154, 35, 220, 77, 167, 134, 239, 248, 20, 124, 78, 114, 185, 128, 119, 133, 175, 238, 72, 187] := by kernel_rfl
end Go.Proofs
