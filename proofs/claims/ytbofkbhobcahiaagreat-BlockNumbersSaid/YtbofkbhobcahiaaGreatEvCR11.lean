/- Parts of a run, reckoned by the kernel; printed by a program of this session. -/
import Derived.Test.YtbofkbhobcahiaaGreatEvCS
namespace Go.Ev
set_option maxRecDepth 1000000
theorem c_t28 : gcOut c_s28k (rounds ctab 1000000 (gA [1, 1, 1, 1, 1, 0, 1, 0, 0] g4.body) 2 c_s27f c_s27h) = some (.st 0 c_s28f c_s28h) := by kernel_rfl
theorem c_t29 : gcOut c_s29k (rounds ctab 1000000 (gA [1, 1, 1, 1, 1, 0, 1, 0, 0] g4.body) 1 c_s28f c_s28h) = some (.st 0 c_s29f c_s29h) := by kernel_rfl
theorem c_t30 : gcOut c_s30k (exec ctab 1000000 (gA [1, 1, 1, 1, 1, 0, 1, 0, 0] g4.body) c_s29f c_s29h k0) = some (.st 6 c_s30f c_s30h) := by kernel_rfl
theorem c_t31 : gcOut c_s31k (exec ctab 1000000 (gA [1, 1, 1, 1, 1, 1, 0, 0] g4.body) c_s30f c_s30h k0) = some (.st 0 c_s31f c_s31h) := by kernel_rfl
theorem c_t32 : gcOut c_s32k (rounds ctab 1000000 (gA [1, 1, 1, 1, 1, 1, 0, 1, 0, 0] g4.body) 5 c_s31f c_s31h) = some (.st 0 c_s32f c_s32h) := by kernel_rfl
theorem c_t33 : gcOut c_s33k (exec ctab 1000000 (gA [1, 1, 1, 1, 1, 1, 0, 1, 0, 0] g4.body) c_s32f c_s32h k0) = some (.st 10 c_s33f c_s33h) := by kernel_rfl
theorem c_t34 : gcOut c_s34k (exec ctab 1000000 (gA [1, 1, 1, 1, 1, 1, 1] g4.body) c_s33f c_s33h k0) = some (.st 1 c_s34f c_s34h) := by kernel_rfl
end Go.Ev
