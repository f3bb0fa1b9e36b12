/- The document's SHA-256 of some texts, by the kernel: no conditions. -/
import Derived.Test.YtbbojdjgabdjmaaGreatDoorCx
import Derived.KernelRfl
namespace Go.Proofs
open Go Go.Eng
set_option maxRecDepth 100000
theorem Tryz.memo12 : memoV Tryz.cx0 212 5 3000 [101] = .ok [63, 121, 187, 123, 67, 91, 5, 50, 22, 81, 218, 239, 211, 116, 205, 198, 129, 220, 6, 250, 166, 94, 55, 78, 56, 51, 123, 136, 202, 4, 109, 234] := by kernel_rfl
theorem Tryz.memo13 : memoV Tryz.cx0 212 5 3000 [76, 4, 2, 97, 68, 4, 127, 55, 231, 34, 10, 228, 174, 4, 232, 106, 212, 9, 62, 248, 203, 251, 49, 243, 242, 233, 250, 72, 14, 234, 21, 220, 79, 83, 104, 190, 23, 253, 4, 2, 101, 68, 4, 172, 158, 229, 245, 151, 19, 43, 111, 118, 58, 84, 134, 245, 96, 7, 151, 199, 98, 251, 37, 10, 205, 243, 250, 251, 217, 47, 22, 35, 241, 42, 106, 2] = .ok [66, 10, 141, 5, 37, 254, 70, 138, 140, 142, 188, 176, 168, 248, 37, 19, 33, 216, 68, 168, 172, 26, 173, 128, 1, 79, 18, 171, 11, 110, 74, 180] := by kernel_rfl
end Go.Proofs
