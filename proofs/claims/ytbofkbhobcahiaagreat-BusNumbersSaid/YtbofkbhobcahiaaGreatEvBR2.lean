/- Parts of a run, reckoned by the kernel; printed by a program of this session. -/
import Derived.Test.YtbofkbhobcahiaaGreatEvBS
namespace Go.Ev
set_option maxRecDepth 1000000
theorem b_t9 : gcOut b_s9k (rounds btab 1000000 (gA [1, 1, 1, 0, 1, 0, 0] g3.body) 64 b_s8f b_s8h) = some (.st 0 b_s9f b_s9h) := by kernel_rfl
end Go.Ev
