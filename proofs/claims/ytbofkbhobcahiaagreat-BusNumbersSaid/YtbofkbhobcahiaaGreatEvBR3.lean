/- Parts of a run, reckoned by the kernel; printed by a program of this session. -/
import Derived.Test.YtbofkbhobcahiaaGreatEvBS
namespace Go.Ev
set_option maxRecDepth 1000000
theorem b_t10 : gcOut b_s10k (rounds btab 1000000 (gA [1, 1, 1, 0, 1, 0, 0] g3.body) 64 b_s9f b_s9h) = some (.st 0 b_s10f b_s10h) := by kernel_rfl
theorem b_t11 : gcOut b_s11k (rounds btab 1000000 (gA [1, 1, 1, 0, 1, 0, 0] g3.body) 64 b_s10f b_s10h) = some (.st 0 b_s11f b_s11h) := by kernel_rfl
theorem b_t12 : gcOut b_s12k (exec btab 1000000 (gA [1, 1, 1, 0, 1, 0, 0] g3.body) b_s11f b_s11h k0) = some (.st 2 b_s12f b_s12h) := by kernel_rfl
end Go.Ev
