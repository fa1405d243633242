/- The parts of a run, joined. -/
import Derived.Test.YtbofkbhobcahiaaGreatEvBR0
import Derived.Test.YtbofkbhobcahiaaGreatEvBR1
import Derived.Test.YtbofkbhobcahiaaGreatEvBR2
import Derived.Test.YtbofkbhobcahiaaGreatEvBR3
import Derived.Test.YtbofkbhobcahiaaGreatEvBR4
namespace Go.Ev
open Go.Proofs
set_option maxRecDepth 1000000
theorem b_go : GGo Tryz.prog ⟨0, Tryz.f3.ntmps, [0, 1, 2, 3, 5, 6, 7, 8, 9, 11, 12, 13, 14, 15, 16, 26, 28, 31, 32, 33, 34, 81, 83, 84, 85, 86, 90, 125]⟩ g3.body b_s0f b_s0h 1 b_s13f b_s13h :=
  (GGo.seq (x := (gA [0] g3.body)) (y := (gA [1] g3.body)) (GGo.run (by kernel_rfl) btab_ok 1000000 b_t1) (GGo.seq (x := (gA [1, 0] g3.body)) (y := (gA [1, 1] g3.body)) (GGo.run (by kernel_rfl) btab_ok 1000000 b_t2) (GGo.seq (x := (gA [1, 1, 0] g3.body)) (y := (gA [1, 1, 1] g3.body)) (GGo.run (by kernel_rfl) btab_ok 1000000 b_t3) (GGo.seq (x := (gA [1, 1, 1, 0] g3.body)) (y := (gA [1, 1, 1, 1] g3.body)) (GGo.seq (x := (gA [1, 1, 1, 0, 0] g3.body)) (y := (gA [1, 1, 1, 0, 1] g3.body)) (GGo.run (by kernel_rfl) btab_ok 1000000 b_t4) (GGo.block (x := (gA [1, 1, 1, 0, 1, 0] g3.body)) (GGo.loop (g := (gA [1, 1, 1, 0, 1, 0, 0] g3.body)) (GRounds.trans (GRounds.trans (GRounds.trans (GRounds.trans (GRounds.trans (GRounds.trans (GRounds.runs (by kernel_rfl) btab_ok 1000000 64 b_t5) (GRounds.runs (by kernel_rfl) btab_ok 1000000 64 b_t6)) (GRounds.runs (by kernel_rfl) btab_ok 1000000 64 b_t7)) (GRounds.runs (by kernel_rfl) btab_ok 1000000 64 b_t8)) (GRounds.runs (by kernel_rfl) btab_ok 1000000 64 b_t9)) (GRounds.runs (by kernel_rfl) btab_ok 1000000 64 b_t10)) (GRounds.runs (by kernel_rfl) btab_ok 1000000 64 b_t11)) (GGo.run (by kernel_rfl) btab_ok 1000000 b_t12)))) (GGo.run (by kernel_rfl) btab_ok 1000000 b_t13)))))
theorem b_calls (w : World) : Calls Tryz.prog 3 #[] w fun e w' => e = .returned (.bool true) ∧ w.heap.size ≤ w'.heap.size ∧ (∀ r, r < w.heap.size → w'.heap[r]? = w.heap[r]?) ∧ w'.tape = w.tape ∧ w'.os = w.os ∧ w'.output = w.output :=
  calls_of_go Tryz.func3 g3_ok b_go (h' := b_s13h) (by kernel_rfl) w
end Go.Ev
