/- The program's SHA-256 of some texts, by the kernel: no conditions. -/
import Derived.Test.YtbbojdjgabdjmaaGreatDoorCx
import Derived.KernelRfl
namespace Go.Proofs
open Go Go.Eng
set_option maxRecDepth 100000
theorem Tryz.hmemo0 (e : TypeId) : memoH (Tryz.cx0.known Tryz.ext) 243 3 Tryz.keys e 9 3000 [[100]] = .ok [24, 172, 62, 115, 67, 240, 22, 137, 12, 81, 14, 147, 249, 53, 38, 17, 105, 217, 227, 245, 101, 67, 100, 41, 131, 15, 175, 9, 52, 244, 248, 228] := by kernel_rfl
theorem Tryz.hmemo1 (e : TypeId) : memoH (Tryz.cx0.known Tryz.ext) 243 3 Tryz.keys e 9 3000 [[76, 4, 2, 100, 68, 2, 50, 50, 50, 50, 50, 50, 50, 50, 50, 50, 50, 50, 50, 50, 50, 50, 50, 50, 50, 50, 50, 50, 50, 50, 50, 50, 50, 50, 50, 50, 50, 50, 2, 2, 120, 68, 2, 55, 55, 55, 55, 55, 55, 55, 55, 55, 55, 55, 55, 55, 55, 55, 55, 55, 55, 55, 55, 55, 55, 55, 55, 55, 55, 55, 55, 55, 55, 55, 55, 2]] = .ok [153, 146, 219, 76, 108, 217, 230, 137, 68, 246, 143, 253, 183, 124, 147, 215, 61, 50, 143, 73, 19, 69, 133, 183, 50, 81, 56, 124, 41, 163, 239, 108] := by kernel_rfl
theorem Tryz.hmemo2 (e : TypeId) : memoH (Tryz.cx0.known Tryz.ext) 243 3 Tryz.keys e 9 3000 [[98]] = .ok [62, 35, 232, 22, 0, 57, 89, 74, 51, 137, 79, 101, 100, 225, 177, 52, 139, 189, 122, 0, 136, 212, 44, 74, 203, 115, 238, 174, 213, 156, 0, 157] := by kernel_rfl
end Go.Proofs
