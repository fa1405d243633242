/- Parts of a run, reckoned by the kernel; printed by a program of this session. -/
import Derived.Test.YtbofkbhobcahiaaGreatEvBS
namespace Go.Ev
set_option maxRecDepth 1000000
theorem b_t1 : gcOut b_s1k (exec btab 1000000 (gA [0] g3.body) b_s0f b_s0h k0) = some (.st 0 b_s1f b_s1h) := by kernel_rfl
theorem b_t2 : gcOut b_s2k (exec btab 1000000 (gA [1, 0] g3.body) b_s1f b_s1h k0) = some (.st 0 b_s2f b_s2h) := by kernel_rfl
theorem b_t3 : gcOut b_s3k (exec btab 1000000 (gA [1, 1, 0] g3.body) b_s2f b_s2h k0) = some (.st 0 b_s3f b_s3h) := by kernel_rfl
theorem b_t4 : gcOut b_s4k (exec btab 1000000 (gA [1, 1, 1, 0, 0] g3.body) b_s3f b_s3h k0) = some (.st 0 b_s4f b_s4h) := by kernel_rfl
theorem b_t5 : gcOut b_s5k (rounds btab 1000000 (gA [1, 1, 1, 0, 1, 0, 0] g3.body) 64 b_s4f b_s4h) = some (.st 0 b_s5f b_s5h) := by kernel_rfl
theorem b_t6 : gcOut b_s6k (rounds btab 1000000 (gA [1, 1, 1, 0, 1, 0, 0] g3.body) 64 b_s5f b_s5h) = some (.st 0 b_s6f b_s6h) := by kernel_rfl
end Go.Ev
