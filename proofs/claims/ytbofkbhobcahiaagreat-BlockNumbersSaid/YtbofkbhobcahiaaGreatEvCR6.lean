/- Parts of a run, reckoned by the kernel; printed by a program of this session. -/
import Derived.Test.YtbofkbhobcahiaaGreatEvCS
namespace Go.Ev
set_option maxRecDepth 1000000
theorem c_t21 : gcOut c_s21k (rounds ctab 1000000 (gA [1, 1, 1, 1, 1, 0, 1, 0, 0] g4.body) 2 c_s20f c_s20h) = some (.st 0 c_s21f c_s21h) := by kernel_rfl
end Go.Ev
