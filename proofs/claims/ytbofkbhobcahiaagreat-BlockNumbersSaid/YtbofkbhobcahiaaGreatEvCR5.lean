/- Parts of a run, reckoned by the kernel; printed by a program of this session. -/
import Derived.Test.YtbofkbhobcahiaaGreatEvCS
namespace Go.Ev
set_option maxRecDepth 1000000
theorem c_t18 : gcOut c_s18k (rounds ctab 1000000 (gA [1, 1, 1, 1, 1, 0, 1, 0, 0] g4.body) 2 c_s17f c_s17h) = some (.st 0 c_s18f c_s18h) := by kernel_rfl
theorem c_t19 : gcOut c_s19k (rounds ctab 1000000 (gA [1, 1, 1, 1, 1, 0, 1, 0, 0] g4.body) 2 c_s18f c_s18h) = some (.st 0 c_s19f c_s19h) := by kernel_rfl
theorem c_t20 : gcOut c_s20k (rounds ctab 1000000 (gA [1, 1, 1, 1, 1, 0, 1, 0, 0] g4.body) 2 c_s19f c_s19h) = some (.st 0 c_s20f c_s20h) := by kernel_rfl
end Go.Ev
