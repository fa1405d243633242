/- Parts of a run, reckoned by the kernel; printed by a program of this session. -/
import Derived.Test.YtbofkbhobcahiaaGreatEvCS
namespace Go.Ev
set_option maxRecDepth 1000000
theorem c_t13 : gcOut c_s13k (rounds ctab 1000000 (gA [1, 1, 1, 1, 1, 0, 1, 0, 0] g4.body) 2 c_s12f c_s12h) = some (.st 0 c_s13f c_s13h) := by kernel_rfl
theorem c_t14 : gcOut c_s14k (rounds ctab 1000000 (gA [1, 1, 1, 1, 1, 0, 1, 0, 0] g4.body) 2 c_s13f c_s13h) = some (.st 0 c_s14f c_s14h) := by kernel_rfl
theorem c_t15 : gcOut c_s15k (rounds ctab 1000000 (gA [1, 1, 1, 1, 1, 0, 1, 0, 0] g4.body) 2 c_s14f c_s14h) = some (.st 0 c_s15f c_s15h) := by kernel_rfl
end Go.Ev
