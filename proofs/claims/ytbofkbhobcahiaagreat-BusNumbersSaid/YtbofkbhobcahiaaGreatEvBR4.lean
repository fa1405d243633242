/- Parts of a run, reckoned by the kernel; printed by a program of this session. -/
import Derived.Test.YtbofkbhobcahiaaGreatEvBS
namespace Go.Ev
set_option maxRecDepth 1000000
theorem b_t13 : gcOut b_s13k (exec btab 1000000 (gA [1, 1, 1, 1] g3.body) b_s12f b_s12h k0) = some (.st 1 b_s13f b_s13h) := by kernel_rfl
end Go.Ev
