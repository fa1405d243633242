/- Parts of a run, reckoned by the kernel; printed by a program of this session. -/
import Derived.Test.YtbofkbhobcahiaaGreatEvCS
namespace Go.Ev
set_option maxRecDepth 1000000
theorem c_t27 : gcOut c_s27k (rounds ctab 1000000 (gA [1, 1, 1, 1, 1, 0, 1, 0, 0] g4.body) 2 c_s26f c_s26h) = some (.st 0 c_s27f c_s27h) := by kernel_rfl
end Go.Ev
