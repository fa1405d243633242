/- Parts of a run, reckoned by the kernel; printed by a program of this session. -/
import Derived.Test.YtbofkbhobcahiaaGreatEvCS
namespace Go.Ev
set_option maxRecDepth 1000000
theorem c_t22 : gcOut c_s22k (rounds ctab 1000000 (gA [1, 1, 1, 1, 1, 0, 1, 0, 0] g4.body) 2 c_s21f c_s21h) = some (.st 0 c_s22f c_s22h) := by kernel_rfl
end Go.Ev
