/- Parts of a run, reckoned by the kernel; printed by a program of this session. -/
import Derived.Test.YtbofkbhobcahiaaGreatEvCS
namespace Go.Ev
set_option maxRecDepth 1000000
theorem c_t1 : gcOut c_s1k (exec ctab 1000000 (gA [0] g4.body) c_s0f c_s0h k0) = some (.st 0 c_s1f c_s1h) := by kernel_rfl
theorem c_t2 : gcOut c_s2k (exec ctab 1000000 (gA [1, 0] g4.body) c_s1f c_s1h k0) = some (.st 0 c_s2f c_s2h) := by kernel_rfl
theorem c_t3 : gcOut c_s3k (exec ctab 1000000 (gA [1, 1, 0, 0] g4.body) c_s2f c_s2h k0) = some (.st 0 c_s3f c_s3h) := by kernel_rfl
theorem c_t4 : gcOut c_s4k (rounds ctab 1000000 (gA [1, 1, 0, 1, 0, 0] g4.body) 128 c_s3f c_s3h) = some (.st 0 c_s4f c_s4h) := by kernel_rfl
theorem c_t5 : gcOut c_s5k (rounds ctab 1000000 (gA [1, 1, 0, 1, 0, 0] g4.body) 128 c_s4f c_s4h) = some (.st 0 c_s5f c_s5h) := by kernel_rfl
theorem c_t6 : gcOut c_s6k (rounds ctab 1000000 (gA [1, 1, 0, 1, 0, 0] g4.body) 128 c_s5f c_s5h) = some (.st 0 c_s6f c_s6h) := by kernel_rfl
theorem c_t7 : gcOut c_s7k (rounds ctab 1000000 (gA [1, 1, 0, 1, 0, 0] g4.body) 128 c_s6f c_s6h) = some (.st 0 c_s7f c_s7h) := by kernel_rfl
theorem c_t8 : gcOut c_s8k (exec ctab 1000000 (gA [1, 1, 0, 1, 0, 0] g4.body) c_s7f c_s7h k0) = some (.st 2 c_s8f c_s8h) := by kernel_rfl
theorem c_t9 : gcOut c_s9k (exec ctab 1000000 (gA [1, 1, 1, 0] g4.body) c_s8f c_s8h k0) = some (.st 0 c_s9f c_s9h) := by kernel_rfl
theorem c_t10 : gcOut c_s10k (exec ctab 1000000 (gA [1, 1, 1, 1, 0] g4.body) c_s9f c_s9h k0) = some (.st 0 c_s10f c_s10h) := by kernel_rfl
theorem c_t11 : gcOut c_s11k (exec ctab 1000000 (gA [1, 1, 1, 1, 1, 0, 0] g4.body) c_s10f c_s10h k0) = some (.st 0 c_s11f c_s11h) := by kernel_rfl
end Go.Ev
