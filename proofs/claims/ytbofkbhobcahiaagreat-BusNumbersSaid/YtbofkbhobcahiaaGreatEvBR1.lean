/- Parts of a run, reckoned by the kernel; printed by a program of this session. -/
import Derived.Test.YtbofkbhobcahiaaGreatEvBS
namespace Go.Ev
set_option maxRecDepth 1000000
theorem b_t7 : gcOut b_s7k (rounds btab 1000000 (gA [1, 1, 1, 0, 1, 0, 0] g3.body) 64 b_s6f b_s6h) = some (.st 0 b_s7f b_s7h) := by kernel_rfl
theorem b_t8 : gcOut b_s8k (rounds btab 1000000 (gA [1, 1, 1, 0, 1, 0, 0] g3.body) 64 b_s7f b_s7h) = some (.st 0 b_s8f b_s8h) := by kernel_rfl
end Go.Ev
