/- Parts of a run, reckoned by the kernel; printed by a program of this session. -/
import Derived.Test.YtbofkbhobcahiaaGreatEvCS
namespace Go.Ev
set_option maxRecDepth 1000000
theorem c_t23 : gcOut c_s23k (rounds ctab 1000000 (gA [1, 1, 1, 1, 1, 0, 1, 0, 0] g4.body) 2 c_s22f c_s22h) = some (.st 0 c_s23f c_s23h) := by kernel_rfl
theorem c_t24 : gcOut c_s24k (rounds ctab 1000000 (gA [1, 1, 1, 1, 1, 0, 1, 0, 0] g4.body) 2 c_s23f c_s23h) = some (.st 0 c_s24f c_s24h) := by kernel_rfl
theorem c_t25 : gcOut c_s25k (rounds ctab 1000000 (gA [1, 1, 1, 1, 1, 0, 1, 0, 0] g4.body) 2 c_s24f c_s24h) = some (.st 0 c_s25f c_s25h) := by kernel_rfl
end Go.Ev
