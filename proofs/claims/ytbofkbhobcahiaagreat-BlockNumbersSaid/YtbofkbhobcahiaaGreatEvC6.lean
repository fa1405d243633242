/- Ghost code of the Go functions, printed by a program of this session (genfiles.py). -/
import Derived.Test.YtbofkbhobcahiaaGreatEvComp
import Derived.Test.YtbofkbhobcahiaaGreatProg
namespace Go.Ev
open Go.Proofs
set_option maxRecDepth 100000
noncomputable section
/-- pianola/pianolaref3.special -/
def g200 : GFunc := ⟨0, (.seq (.reg fun _ fr h k =>
  forceG .nils fun v => Tr.setK .bad v q0 fr fun f0 =>
  k f0 h)
 (.seq (.reg fun _ fr h k =>
  obind (pBuild [.int .i64 (.ofNat 0), .int .i64 (.ofNat 0), .int .i64 (.ofNat 0), .str 0 0] [(0, 1, (.int .i64 (.ofNat 0))), (1, 1, (.int .i64 (.ofNat 0))), (2, 1, (.int .i64 (.ofNat 1))), (3, 1, (.str 3 6841460))]) fun v0 =>
  obind (pBuild [.int .i64 (.ofNat 0), .int .i64 (.ofNat 0), .int .i64 (.ofNat 0), .str 0 0] [(0, 1, (.int .i64 (.ofNat 0))), (1, 1, (.int .i64 (.ofNat 2))), (2, 1, (.int .i64 (.ofNat 2))), (3, 1, (.str 3 6841460))]) fun v1 =>
  obind (pBuild [.int .i64 (.ofNat 0), .int .i64 (.ofNat 0), .int .i64 (.ofNat 0), .str 0 0] [(0, 1, (.int .i64 (.ofNat 0))), (1, 1, (.int .i64 (.ofNat 3))), (2, 1, (.int .i64 (.ofNat 3))), (3, 1, (.str 3 6841460))]) fun v2 =>
  obind (pBuild [.int .i64 (.ofNat 0), .int .i64 (.ofNat 0), .int .i64 (.ofNat 0), .str 0 0] [(0, 1, (.int .i64 (.ofNat 0))), (1, 1, (.int .i64 (.ofNat 4))), (2, 1, (.int .i64 (.ofNat 4))), (3, 1, (.str 3 6583411))]) fun v3 =>
  obind (pBuild [.int .i64 (.ofNat 0), .int .i64 (.ofNat 0), .int .i64 (.ofNat 0), .str 0 0] [(0, 1, (.int .i64 (.ofNat 0))), (1, 1, (.int .i64 (.ofNat 6))), (2, 1, (.int .i64 (.ofNat 5))), (3, 1, (.str 3 6583411))]) fun v4 =>
  obind (pBuild [.int .i64 (.ofNat 0), .int .i64 (.ofNat 0), .int .i64 (.ofNat 0), .str 0 0] [(0, 1, (.int .i64 (.ofNat 0))), (1, 1, (.int .i64 (.ofNat 7))), (2, 1, (.int .i64 (.ofNat 6))), (3, 1, (.str 3 6583411))]) fun v5 =>
  obind (pBuild [.int .i64 (.ofNat 0), .int .i64 (.ofNat 0), .int .i64 (.ofNat 0), .str 0 0] [(0, 1, (.int .i64 (.ofNat 0))), (1, 1, (.int .i64 (.ofNat 8))), (2, 1, (.int .i64 (.ofNat 7))), (3, 1, (.str 1 115))]) fun v6 =>
  obind (pBuild [.int .i64 (.ofNat 0), .int .i64 (.ofNat 0), .int .i64 (.ofNat 0), .str 0 0] [(0, 1, (.int .i64 (.ofNat 0))), (1, 1, (.int .i64 (.ofNat 9))), (2, 1, (.int .i64 (.ofNat 8))), (3, 1, (.str 2 25715))]) fun v7 =>
  obind (pBuild [.int .i64 (.ofNat 0), .int .i64 (.ofNat 0), .int .i64 (.ofNat 0), .str 0 0] [(0, 1, (.int .i64 (.ofNat 0))), (1, 1, (.int .i64 (.ofNat 10))), (2, 1, (.int .i64 (.ofNat 9))), (3, 1, (.str 3 6583411))]) fun v8 =>
  obind (pBuild [.int .i64 (.ofNat 0), .int .i64 (.ofNat 0), .int .i64 (.ofNat 0), .str 0 0] [(0, 1, (.int .i64 (.ofNat 0))), (1, 1, (.int .i64 (.ofNat 11))), (2, 1, (.int .i64 (.ofNat 10))), (3, 1, (.str 3 6583411))]) fun v9 =>
  obind (pBuild [.int .i64 (.ofNat 0), .int .i64 (.ofNat 0), .int .i64 (.ofNat 0), .str 0 0] [(0, 1, (.int .i64 (.ofNat 0))), (1, 1, (.int .i64 (.ofNat 12))), (2, 1, (.int .i64 (.ofNat 11))), (3, 1, (.str 0 0))]) fun v10 =>
  obind (pBuild [.int .i64 (.ofNat 0), .int .i64 (.ofNat 0), .int .i64 (.ofNat 0), .str 0 0] [(0, 1, (.int .i64 (.ofNat 0))), (1, 1, (.int .i64 (.ofNat 13))), (2, 1, (.int .i64 (.ofNat 12))), (3, 1, (.str 0 0))]) fun v11 =>
  obind (pBuild [.int .i64 (.ofNat 0), .int .i64 (.ofNat 0), .int .i64 (.ofNat 0), .str 0 0] [(0, 1, (.int .i64 (.ofNat 0))), (1, 1, (.int .i64 (.ofNat 15))), (2, 1, (.int .i64 (.ofNat 13))), (3, 1, (.str 0 0))]) fun v12 =>
  obind (pBuild [.int .i64 (.ofNat 0), .int .i64 (.ofNat 0), .int .i64 (.ofNat 0), .str 0 0] [(0, 1, (.int .i64 (.ofNat 0))), (1, 1, (.int .i64 (.ofNat 16))), (2, 1, (.int .i64 (.ofNat 14))), (3, 1, (.str 1 100))]) fun v13 =>
  obind (pBuild [.int .i64 (.ofNat 0), .int .i64 (.ofNat 0), .int .i64 (.ofNat 0), .str 0 0] [(0, 1, (.int .i64 (.ofNat 0))), (1, 1, (.int .i64 (.ofNat 17))), (2, 1, (.int .i64 (.ofNat 15))), (3, 1, (.str 1 115))]) fun v14 =>
  obind (pBuild [.int .i64 (.ofNat 0), .int .i64 (.ofNat 0), .int .i64 (.ofNat 0), .str 0 0] [(0, 1, (.int .i64 (.ofNat 0))), (1, 1, (.int .i64 (.ofNat 18))), (2, 1, (.int .i64 (.ofNat 16))), (3, 1, (.str 1 100))]) fun v15 =>
  obind (pBuild [.int .i64 (.ofNat 0), .int .i64 (.ofNat 0), .int .i64 (.ofNat 0), .str 0 0] [(0, 1, (.int .i64 (.ofNat 0))), (1, 1, (.int .i64 (.ofNat 19))), (2, 1, (.int .i64 (.ofNat 17))), (3, 1, (.str 1 115))]) fun v16 =>
  obind (pBuild [.int .i64 (.ofNat 0), .int .i64 (.ofNat 0), .int .i64 (.ofNat 0), .str 0 0] [(0, 1, (.int .i64 (.ofNat 0))), (1, 1, (.int .i64 (.ofNat 24))), (2, 1, (.int .i64 (.ofNat 18))), (3, 1, (.str 2 29811))]) fun v17 =>
  obind (pBuild [.int .i64 (.ofNat 0), .int .i64 (.ofNat 0), .int .i64 (.ofNat 0), .str 0 0] [(0, 1, (.int .i64 (.ofNat 0))), (1, 1, (.int .i64 (.ofNat 25))), (2, 1, (.int .i64 (.ofNat 19))), (3, 1, (.str 2 29811))]) fun v18 =>
  obind (pBuild [.int .i64 (.ofNat 0), .int .i64 (.ofNat 0), .int .i64 (.ofNat 0), .str 0 0] [(0, 1, (.int .i64 (.ofNat 0))), (1, 1, (.int .i64 (.ofNat 26))), (2, 1, (.int .i64 (.ofNat 20))), (3, 1, (.str 2 29811))]) fun v19 =>
  obind (pBuild [.int .i64 (.ofNat 0), .int .i64 (.ofNat 0), .int .i64 (.ofNat 0), .str 0 0] [(0, 1, (.int .i64 (.ofNat 0))), (1, 1, (.int .i64 (.ofNat 27))), (2, 1, (.int .i64 (.ofNat 21))), (3, 1, (.str 2 29811))]) fun v20 =>
  obind (pBuild [.int .i64 (.ofNat 0), .int .i64 (.ofNat 0), .int .i64 (.ofNat 0), .str 0 0] [(0, 1, (.int .i64 (.ofNat 0))), (1, 1, (.int .i64 (.ofNat 32))), (2, 1, (.int .i64 (.ofNat 22))), (3, 1, (.str 3 6583411))]) fun v21 =>
  obind (pBuild [.int .i64 (.ofNat 0), .int .i64 (.ofNat 0), .int .i64 (.ofNat 0), .str 0 0] [(0, 1, (.int .i64 (.ofNat 0))), (1, 1, (.int .i64 (.ofNat 33))), (2, 1, (.int .i64 (.ofNat 23))), (3, 1, (.str 3 6583411))]) fun v22 =>
  obind (pBuild [.int .i64 (.ofNat 0), .int .i64 (.ofNat 0), .int .i64 (.ofNat 0), .str 0 0] [(0, 1, (.int .i64 (.ofNat 0))), (1, 1, (.int .i64 (.ofNat 34))), (2, 1, (.int .i64 (.ofNat 24))), (3, 1, (.str 3 6583411))]) fun v23 =>
  obind (pBuild [.int .i64 (.ofNat 0), .int .i64 (.ofNat 0), .int .i64 (.ofNat 0), .str 0 0] [(0, 1, (.int .i64 (.ofNat 0))), (1, 1, (.int .i64 (.ofNat 35))), (2, 1, (.int .i64 (.ofNat 25))), (3, 1, (.str 3 6583411))]) fun v24 =>
  obind (pBuild [.int .i64 (.ofNat 0), .int .i64 (.ofNat 0), .int .i64 (.ofNat 0), .str 0 0] [(0, 1, (.int .i64 (.ofNat 0))), (1, 1, (.int .i64 (.ofNat 36))), (2, 1, (.int .i64 (.ofNat 26))), (3, 1, (.str 3 6583411))]) fun v25 =>
  obind (pBuild [.int .i64 (.ofNat 0), .int .i64 (.ofNat 0), .int .i64 (.ofNat 0), .str 0 0] [(0, 1, (.int .i64 (.ofNat 0))), (1, 1, (.int .i64 (.ofNat 37))), (2, 1, (.int .i64 (.ofNat 27))), (3, 1, (.str 3 6583411))]) fun v26 =>
  obind (pBuild [.int .i64 (.ofNat 0), .int .i64 (.ofNat 0), .int .i64 (.ofNat 0), .str 0 0] [(0, 1, (.int .i64 (.ofNat 0))), (1, 1, (.int .i64 (.ofNat 38))), (2, 1, (.int .i64 (.ofNat 28))), (3, 1, (.str 3 6583411))]) fun v27 =>
  obind (pBuild [.int .i64 (.ofNat 0), .int .i64 (.ofNat 0), .int .i64 (.ofNat 0), .str 0 0] [(0, 1, (.int .i64 (.ofNat 0))), (1, 1, (.int .i64 (.ofNat 39))), (2, 1, (.int .i64 (.ofNat 29))), (3, 1, (.str 3 6583411))]) fun v28 =>
  obind (pBuild [.int .i64 (.ofNat 0), .int .i64 (.ofNat 0), .int .i64 (.ofNat 0), .str 0 0] [(0, 1, (.int .i64 (.ofNat 0))), (1, 1, (.int .i64 (.ofNat 42))), (2, 1, (.int .i64 (.ofNat 30))), (3, 1, (.str 3 6583411))]) fun v29 =>
  obind (pBuild [.int .i64 (.ofNat 0), .int .i64 (.ofNat 0), .int .i64 (.ofNat 0), .str 0 0] [(0, 1, (.int .i64 (.ofNat 0))), (1, 1, (.int .i64 (.ofNat 43))), (2, 1, (.int .i64 (.ofNat 31))), (3, 1, (.str 3 6583411))]) fun v30 =>
  obind (pBuild [.int .i64 (.ofNat 0), .int .i64 (.ofNat 0), .int .i64 (.ofNat 0), .str 0 0] [(0, 1, (.int .i64 (.ofNat 0))), (1, 1, (.int .i64 (.ofNat 48))), (2, 1, (.int .i64 (.ofNat 32))), (3, 1, (.str 2 29811))]) fun v31 =>
  obind (pBuild [.int .i64 (.ofNat 0), .int .i64 (.ofNat 0), .int .i64 (.ofNat 0), .str 0 0] [(0, 1, (.int .i64 (.ofNat 0))), (1, 1, (.int .i64 (.ofNat 50))), (2, 1, (.int .i64 (.ofNat 33))), (3, 1, (.str 2 29811))]) fun v32 =>
  obind (pBuild [.int .i64 (.ofNat 0), .int .i64 (.ofNat 0), .int .i64 (.ofNat 0), .str 0 0] [(0, 1, (.int .i64 (.ofNat 0))), (1, 1, (.int .i64 (.ofNat 52))), (2, 1, (.int .i64 (.ofNat 34))), (3, 1, (.str 2 29811))]) fun v33 =>
  obind (pBuild [.int .i64 (.ofNat 0), .int .i64 (.ofNat 0), .int .i64 (.ofNat 0), .str 0 0] [(0, 1, (.int .i64 (.ofNat 0))), (1, 1, (.int .i64 (.ofNat 54))), (2, 1, (.int .i64 (.ofNat 35))), (3, 1, (.str 2 29811))]) fun v34 =>
  obind2 (nBuildS (rep [.int .i64 (.ofNat 0), .int .i64 (.ofNat 0), .int .i64 (.ofNat 0), .str 0 0] 35) 35 4 none [(0, 4, v0), (4, 4, v1), (8, 4, v2), (12, 4, v3), (16, 4, v4), (20, 4, v5), (24, 4, v6), (28, 4, v7), (32, 4, v8), (36, 4, v9), (40, 4, v10), (44, 4, v11), (48, 4, v12), (52, 4, v13), (56, 4, v14), (60, 4, v15), (64, 4, v16), (68, 4, v17), (72, 4, v18), (76, 4, v19), (80, 4, v20), (84, 4, v21), (88, 4, v22), (92, 4, v23), (96, 4, v24), (100, 4, v25), (104, 4, v26), (108, 4, v27), (112, 4, v28), (116, 4, v29), (120, 4, v30), (124, 4, v31), (128, 4, v32), (132, 4, v33), (136, 4, v34)] h) fun v35 h36 =>
  forceG v35 fun v => Tr.setK .bad v q0 fr fun f0 =>
  k f0 h36)
 .ret)), resF [.t 0]⟩
theorem g200_ok : Comp Tryz.prog Tryz.f200 0 [0] g200 := ⟨_, [.t 0], rfl, by kernel_rfl, by decide, by kernel_rfl, by kernel_rfl, rfl, rfl⟩
/-- pianola/pianolaref3.others -/
def g201 : GFunc := ⟨0, (.seq (.reg fun _ fr h k =>
  forceG .nils fun v => Tr.setK .bad v q0 fr fun f0 =>
  k f0 h)
 (.seq (.reg fun _ fr h k =>
  obind (pBuild [.int .i64 (.ofNat 0), .int .i64 (.ofNat 0), .int .i64 (.ofNat 0), .str 0 0] [(0, 1, (.int .i64 (.ofNat 1))), (1, 1, (.int .i64 (.ofNat 0))), (2, 1, (.int .i64 (.ofNat 36))), (3, 1, (.str 2 26995))]) fun v0 =>
  obind (pBuild [.int .i64 (.ofNat 0), .int .i64 (.ofNat 0), .int .i64 (.ofNat 0), .str 0 0] [(0, 1, (.int .i64 (.ofNat 1))), (1, 1, (.int .i64 (.ofNat 1))), (2, 1, (.int .i64 (.ofNat 37))), (3, 1, (.str 2 26995))]) fun v1 =>
  obind (pBuild [.int .i64 (.ofNat 0), .int .i64 (.ofNat 0), .int .i64 (.ofNat 0), .str 0 0] [(0, 1, (.int .i64 (.ofNat 1))), (1, 1, (.int .i64 (.ofNat 16))), (2, 1, (.int .i64 (.ofNat 38))), (3, 1, (.str 2 26995))]) fun v2 =>
  obind (pBuild [.int .i64 (.ofNat 0), .int .i64 (.ofNat 0), .int .i64 (.ofNat 0), .str 0 0] [(0, 1, (.int .i64 (.ofNat 1))), (1, 1, (.int .i64 (.ofNat 17))), (2, 1, (.int .i64 (.ofNat 39))), (3, 1, (.str 2 26995))]) fun v3 =>
  obind (pBuild [.int .i64 (.ofNat 0), .int .i64 (.ofNat 0), .int .i64 (.ofNat 0), .str 0 0] [(0, 1, (.int .i64 (.ofNat 16))), (1, 1, (.int .i64 (.ofNat 0))), (2, 1, (.int .i64 (.ofNat 54))), (3, 1, (.str 2 25716))]) fun v4 =>
  obind (pBuild [.int .i64 (.ofNat 0), .int .i64 (.ofNat 0), .int .i64 (.ofNat 0), .str 0 0] [(0, 1, (.int .i64 (.ofNat 16))), (1, 1, (.int .i64 (.ofNat 4))), (2, 1, (.int .i64 (.ofNat 55))), (3, 1, (.str 2 25716))]) fun v5 =>
  obind (pBuild [.int .i64 (.ofNat 0), .int .i64 (.ofNat 0), .int .i64 (.ofNat 0), .str 0 0] [(0, 1, (.int .i64 (.ofNat 16))), (1, 1, (.int .i64 (.ofNat 65))), (2, 1, (.int .i64 (.ofNat 56))), (3, 1, (.str 0 0))]) fun v6 =>
  obind (pBuild [.int .i64 (.ofNat 0), .int .i64 (.ofNat 0), .int .i64 (.ofNat 0), .str 0 0] [(0, 1, (.int .i64 (.ofNat 16))), (1, 1, (.int .i64 (.ofNat 66))), (2, 1, (.int .i64 (.ofNat 57))), (3, 1, (.str 0 0))]) fun v7 =>
  obind (pBuild [.int .i64 (.ofNat 0), .int .i64 (.ofNat 0), .int .i64 (.ofNat 0), .str 0 0] [(0, 1, (.int .i64 (.ofNat 16))), (1, 1, (.int .i64 (.ofNat 70))), (2, 1, (.int .i64 (.ofNat 58))), (3, 1, (.str 0 0))]) fun v8 =>
  obind (pBuild [.int .i64 (.ofNat 0), .int .i64 (.ofNat 0), .int .i64 (.ofNat 0), .str 0 0] [(0, 1, (.int .i64 (.ofNat 16))), (1, 1, (.int .i64 (.ofNat 72))), (2, 1, (.int .i64 (.ofNat 59))), (3, 1, (.str 0 0))]) fun v9 =>
  obind (pBuild [.int .i64 (.ofNat 0), .int .i64 (.ofNat 0), .int .i64 (.ofNat 0), .str 0 0] [(0, 1, (.int .i64 (.ofNat 16))), (1, 1, (.int .i64 (.ofNat 88))), (2, 1, (.int .i64 (.ofNat 60))), (3, 1, (.str 0 0))]) fun v10 =>
  obind (pBuild [.int .i64 (.ofNat 0), .int .i64 (.ofNat 0), .int .i64 (.ofNat 0), .str 0 0] [(0, 1, (.int .i64 (.ofNat 16))), (1, 1, (.int .i64 (.ofNat 96))), (2, 1, (.int .i64 (.ofNat 61))), (3, 1, (.str 0 0))]) fun v11 =>
  obind (pBuild [.int .i64 (.ofNat 0), .int .i64 (.ofNat 0), .int .i64 (.ofNat 0), .str 0 0] [(0, 1, (.int .i64 (.ofNat 28))), (1, 1, (.int .i64 (.ofNat 2))), (2, 1, (.int .i64 (.ofNat 63))), (3, 1, (.str 3 6583411))]) fun v12 =>
  obind (pBuild [.int .i64 (.ofNat 0), .int .i64 (.ofNat 0), .int .i64 (.ofNat 0), .str 0 0] [(0, 1, (.int .i64 (.ofNat 28))), (1, 1, (.int .i64 (.ofNat 32))), (2, 1, (.int .i64 (.ofNat 64))), (3, 1, (.str 2 25715))]) fun v13 =>
  obind (pBuild [.int .i64 (.ofNat 0), .int .i64 (.ofNat 0), .int .i64 (.ofNat 0), .str 0 0] [(0, 1, (.int .i64 (.ofNat 28))), (1, 1, (.int .i64 (.ofNat 33))), (2, 1, (.int .i64 (.ofNat 65))), (3, 1, (.str 2 25715))]) fun v14 =>
  obind2 (nBuildS (rep [.int .i64 (.ofNat 0), .int .i64 (.ofNat 0), .int .i64 (.ofNat 0), .str 0 0] 15) 15 4 none [(0, 4, v0), (4, 4, v1), (8, 4, v2), (12, 4, v3), (16, 4, v4), (20, 4, v5), (24, 4, v6), (28, 4, v7), (32, 4, v8), (36, 4, v9), (40, 4, v10), (44, 4, v11), (48, 4, v12), (52, 4, v13), (56, 4, v14)] h) fun v15 h16 =>
  forceG v15 fun v => Tr.setK .bad v q0 fr fun f0 =>
  k f0 h16)
 .ret)), resF [.t 0]⟩
theorem g201_ok : Comp Tryz.prog Tryz.f201 0 [0] g201 := ⟨_, [.t 0], rfl, by kernel_rfl, by decide, by kernel_rfl, by kernel_rfl, rfl, rfl⟩
/-- pianola/pianolaref3.plain -/
def g202 : GFunc := ⟨0, (.seq (.reg fun _ fr h k =>
  forceG .nils fun v => Tr.setK .bad v q0 fr fun f0 =>
  k f0 h)
 (.seq (.reg fun _ fr h k =>
  obind (pBuild [.int .i64 (.ofNat 0), .int .i64 (.ofNat 0), .int .i64 (.ofNat 0), .str 0 0] [(0, 1, (.int .i64 (.ofNat 2))), (1, 1, (.int .i64 (.ofNat 0))), (2, 1, (.int .i64 (.ofNat 40))), (3, 1, (.str 1 106))]) fun v0 =>
  obind (pBuild [.int .i64 (.ofNat 0), .int .i64 (.ofNat 0), .int .i64 (.ofNat 0), .str 0 0] [(0, 1, (.int .i64 (.ofNat 3))), (1, 1, (.int .i64 (.ofNat 0))), (2, 1, (.int .i64 (.ofNat 41))), (3, 1, (.str 1 106))]) fun v1 =>
  obind (pBuild [.int .i64 (.ofNat 0), .int .i64 (.ofNat 0), .int .i64 (.ofNat 0), .str 0 0] [(0, 1, (.int .i64 (.ofNat 4))), (1, 1, (.int .i64 (.ofNat 0))), (2, 1, (.int .i64 (.ofNat 42))), (3, 1, (.str 3 6911091))]) fun v2 =>
  obind (pBuild [.int .i64 (.ofNat 0), .int .i64 (.ofNat 0), .int .i64 (.ofNat 0), .str 0 0] [(0, 1, (.int .i64 (.ofNat 5))), (1, 1, (.int .i64 (.ofNat 0))), (2, 1, (.int .i64 (.ofNat 43))), (3, 1, (.str 3 6911091))]) fun v3 =>
  obind (pBuild [.int .i64 (.ofNat 0), .int .i64 (.ofNat 0), .int .i64 (.ofNat 0), .str 0 0] [(0, 1, (.int .i64 (.ofNat 6))), (1, 1, (.int .i64 (.ofNat 0))), (2, 1, (.int .i64 (.ofNat 44))), (3, 1, (.str 2 26995))]) fun v4 =>
  obind (pBuild [.int .i64 (.ofNat 0), .int .i64 (.ofNat 0), .int .i64 (.ofNat 0), .str 0 0] [(0, 1, (.int .i64 (.ofNat 7))), (1, 1, (.int .i64 (.ofNat 0))), (2, 1, (.int .i64 (.ofNat 45))), (3, 1, (.str 2 26995))]) fun v5 =>
  obind (pBuild [.int .i64 (.ofNat 0), .int .i64 (.ofNat 0), .int .i64 (.ofNat 0), .str 0 0] [(0, 1, (.int .i64 (.ofNat 8))), (1, 1, (.int .i64 (.ofNat 0))), (2, 1, (.int .i64 (.ofNat 46))), (3, 1, (.str 3 6911091))]) fun v6 =>
  obind (pBuild [.int .i64 (.ofNat 0), .int .i64 (.ofNat 0), .int .i64 (.ofNat 0), .str 0 0] [(0, 1, (.int .i64 (.ofNat 9))), (1, 1, (.int .i64 (.ofNat 0))), (2, 1, (.int .i64 (.ofNat 47))), (3, 1, (.str 3 6911091))]) fun v7 =>
  obind (pBuild [.int .i64 (.ofNat 0), .int .i64 (.ofNat 0), .int .i64 (.ofNat 0), .str 0 0] [(0, 1, (.int .i64 (.ofNat 10))), (1, 1, (.int .i64 (.ofNat 0))), (2, 1, (.int .i64 (.ofNat 48))), (3, 1, (.str 3 6911091))]) fun v8 =>
  obind (pBuild [.int .i64 (.ofNat 0), .int .i64 (.ofNat 0), .int .i64 (.ofNat 0), .str 0 0] [(0, 1, (.int .i64 (.ofNat 11))), (1, 1, (.int .i64 (.ofNat 0))), (2, 1, (.int .i64 (.ofNat 49))), (3, 1, (.str 3 6911091))]) fun v9 =>
  obind (pBuild [.int .i64 (.ofNat 0), .int .i64 (.ofNat 0), .int .i64 (.ofNat 0), .str 0 0] [(0, 1, (.int .i64 (.ofNat 12))), (1, 1, (.int .i64 (.ofNat 0))), (2, 1, (.int .i64 (.ofNat 50))), (3, 1, (.str 3 6911091))]) fun v10 =>
  obind (pBuild [.int .i64 (.ofNat 0), .int .i64 (.ofNat 0), .int .i64 (.ofNat 0), .str 0 0] [(0, 1, (.int .i64 (.ofNat 13))), (1, 1, (.int .i64 (.ofNat 0))), (2, 1, (.int .i64 (.ofNat 51))), (3, 1, (.str 3 6911091))]) fun v11 =>
  obind (pBuild [.int .i64 (.ofNat 0), .int .i64 (.ofNat 0), .int .i64 (.ofNat 0), .str 0 0] [(0, 1, (.int .i64 (.ofNat 14))), (1, 1, (.int .i64 (.ofNat 0))), (2, 1, (.int .i64 (.ofNat 52))), (3, 1, (.str 3 6911091))]) fun v12 =>
  obind (pBuild [.int .i64 (.ofNat 0), .int .i64 (.ofNat 0), .int .i64 (.ofNat 0), .str 0 0] [(0, 1, (.int .i64 (.ofNat 15))), (1, 1, (.int .i64 (.ofNat 0))), (2, 1, (.int .i64 (.ofNat 53))), (3, 1, (.str 2 26996))]) fun v13 =>
  obind (pBuild [.int .i64 (.ofNat 0), .int .i64 (.ofNat 0), .int .i64 (.ofNat 0), .str 0 0] [(0, 1, (.int .i64 (.ofNat 17))), (1, 1, (.int .i64 (.ofNat 0))), (2, 1, (.int .i64 (.ofNat 62))), (3, 1, (.str 0 0))]) fun v14 =>
  obind (pBuild [.int .i64 (.ofNat 0), .int .i64 (.ofNat 0), .int .i64 (.ofNat 0), .str 0 0] [(0, 1, (.int .i64 (.ofNat 32))), (1, 1, (.int .i64 (.ofNat 0))), (2, 1, (.int .i64 (.ofNat 66))), (3, 1, (.str 3 6911091))]) fun v15 =>
  obind (pBuild [.int .i64 (.ofNat 0), .int .i64 (.ofNat 0), .int .i64 (.ofNat 0), .str 0 0] [(0, 1, (.int .i64 (.ofNat 33))), (1, 1, (.int .i64 (.ofNat 0))), (2, 1, (.int .i64 (.ofNat 67))), (3, 1, (.str 3 6911091))]) fun v16 =>
  obind (pBuild [.int .i64 (.ofNat 0), .int .i64 (.ofNat 0), .int .i64 (.ofNat 0), .str 0 0] [(0, 1, (.int .i64 (.ofNat 35))), (1, 1, (.int .i64 (.ofNat 0))), (2, 1, (.int .i64 (.ofNat 68))), (3, 1, (.str 3 6911091))]) fun v17 =>
  obind (pBuild [.int .i64 (.ofNat 0), .int .i64 (.ofNat 0), .int .i64 (.ofNat 0), .str 0 0] [(0, 1, (.int .i64 (.ofNat 36))), (1, 1, (.int .i64 (.ofNat 0))), (2, 1, (.int .i64 (.ofNat 69))), (3, 1, (.str 3 6911091))]) fun v18 =>
  obind (pBuild [.int .i64 (.ofNat 0), .int .i64 (.ofNat 0), .int .i64 (.ofNat 0), .str 0 0] [(0, 1, (.int .i64 (.ofNat 37))), (1, 1, (.int .i64 (.ofNat 0))), (2, 1, (.int .i64 (.ofNat 70))), (3, 1, (.str 3 6911091))]) fun v19 =>
  obind (pBuild [.int .i64 (.ofNat 0), .int .i64 (.ofNat 0), .int .i64 (.ofNat 0), .str 0 0] [(0, 1, (.int .i64 (.ofNat 40))), (1, 1, (.int .i64 (.ofNat 0))), (2, 1, (.int .i64 (.ofNat 71))), (3, 1, (.str 3 6911091))]) fun v20 =>
  obind (pBuild [.int .i64 (.ofNat 0), .int .i64 (.ofNat 0), .int .i64 (.ofNat 0), .str 0 0] [(0, 1, (.int .i64 (.ofNat 41))), (1, 1, (.int .i64 (.ofNat 0))), (2, 1, (.int .i64 (.ofNat 72))), (3, 1, (.str 3 6911091))]) fun v21 =>
  obind (pBuild [.int .i64 (.ofNat 0), .int .i64 (.ofNat 0), .int .i64 (.ofNat 0), .str 0 0] [(0, 1, (.int .i64 (.ofNat 43))), (1, 1, (.int .i64 (.ofNat 0))), (2, 1, (.int .i64 (.ofNat 73))), (3, 1, (.str 3 6911091))]) fun v22 =>
  obind (pBuild [.int .i64 (.ofNat 0), .int .i64 (.ofNat 0), .int .i64 (.ofNat 0), .str 0 0] [(0, 1, (.int .i64 (.ofNat 47))), (1, 1, (.int .i64 (.ofNat 0))), (2, 1, (.int .i64 (.ofNat 76))), (3, 1, (.str 0 0))]) fun v23 =>
  obind (pBuild [.int .i64 (.ofNat 0), .int .i64 (.ofNat 0), .int .i64 (.ofNat 0), .str 0 0] [(0, 1, (.int .i64 (.ofNat 48))), (1, 1, (.int .i64 (.ofNat 0))), (2, 1, (.int .i64 (.ofNat 74))), (3, 1, (.str 3 6911091))]) fun v24 =>
  obind (pBuild [.int .i64 (.ofNat 0), .int .i64 (.ofNat 0), .int .i64 (.ofNat 0), .str 0 0] [(0, 1, (.int .i64 (.ofNat 51))), (1, 1, (.int .i64 (.ofNat 0))), (2, 1, (.int .i64 (.ofNat 77))), (3, 1, (.str 0 0))]) fun v25 =>
  obind (pBuild [.int .i64 (.ofNat 0), .int .i64 (.ofNat 0), .int .i64 (.ofNat 0), .str 0 0] [(0, 1, (.int .i64 (.ofNat 56))), (1, 1, (.int .i64 (.ofNat 0))), (2, 1, (.int .i64 (.ofNat 75))), (3, 1, (.str 3 6911091))]) fun v26 =>
  obind2 (nBuildS (rep [.int .i64 (.ofNat 0), .int .i64 (.ofNat 0), .int .i64 (.ofNat 0), .str 0 0] 27) 27 4 none [(0, 4, v0), (4, 4, v1), (8, 4, v2), (12, 4, v3), (16, 4, v4), (20, 4, v5), (24, 4, v6), (28, 4, v7), (32, 4, v8), (36, 4, v9), (40, 4, v10), (44, 4, v11), (48, 4, v12), (52, 4, v13), (56, 4, v14), (60, 4, v15), (64, 4, v16), (68, 4, v17), (72, 4, v18), (76, 4, v19), (80, 4, v20), (84, 4, v21), (88, 4, v22), (92, 4, v23), (96, 4, v24), (100, 4, v25), (104, 4, v26)] h) fun v27 h28 =>
  forceG v27 fun v => Tr.setK .bad v q0 fr fun f0 =>
  k f0 h28)
 .ret)), resF [.t 0]⟩
theorem g202_ok : Comp Tryz.prog Tryz.f202 0 [0] g202 := ⟨_, [.t 0], rfl, by kernel_rfl, by decide, by kernel_rfl, by kernel_rfl, rfl, rfl⟩
/-- pianola/pianolaref1.wide -/
def g203 : GFunc := ⟨2, (.seq (.reg fun _ fr h k =>
  forceG (.int .i64 (.ofNat 0)) fun v => Tr.setK .bad v q4 fr fun f4 =>
  k f4 h)
 (.seq (.seq (.reg fun _ fr h k =>
  guardC (Tr.get .bad q1 fr) true h (fun k => k (Tr.get .bad q0 fr) h) fun v0 h1 =>
  guardC (Tr.get .bad q1 fr) true h1 (fun k => obind (pGeq v0 (.int .u32 (.ofNat 2147483648))) fun v => k v h1) fun v1 h2 =>
  obind (pPick (Tr.get .bad q1 fr) v1 (.bool false)) fun v2 =>
  forceG v2 fun v => Tr.setK .bad v q9 fr fun f9 =>
  k f9 h2)
 (.cond 9 q9 (.seq (.reg fun _ fr h k =>
  obind (pConv .i64 (Tr.get .bad q0 fr)) fun v0 =>
  obind (pSub v0 (.int .i64 (.ofNat 4294967296))) fun v1 =>
  forceG v1 fun v => Tr.setK .bad v q4 fr fun f4 =>
  k f4 h)
 .ret)
 .skip))
 (.seq (.reg fun _ fr h k =>
  obind (pConv .i64 (Tr.get .bad q0 fr)) fun v0 =>
  forceG v0 fun v => Tr.setK .bad v q4 fr fun f4 =>
  k f4 h)
 .ret))), resF [.t 4]⟩
theorem g203_ok : Comp Tryz.prog Tryz.f203 2 [4, 9] g203 := ⟨_, [.t 4], rfl, by kernel_rfl, by decide, by kernel_rfl, by kernel_rfl, rfl, rfl⟩
/-- pianola/pianolaref1.Over -/
def g204 : GFunc := ⟨3, (.seq (.reg fun _ fr h k =>
  forceG (.bool false) fun v => Tr.setK .bad v q6 fr fun f6 =>
  k f6 h)
 (.seq (.reg fun call fr h k =>
  call q203 [(Tr.get .bad q0 fr), (.bool true)] h fun v0 h1 =>
  call q203 [(Tr.get .bad q1 fr), (.bool true)] h1 fun v1 h2 =>
  obind (pAdd v0 v1) fun v2 =>
  forceG v2 fun v => Tr.setK .bad v q7 fr fun f7 =>
  k f7 h2)
 (.seq (.seq (.reg fun _ fr h k =>
  forceG (Tr.get .bad q2 fr) fun v => Tr.setK .bad v q13 fr fun f13 =>
  k f13 h)
 (.cond 13 q13 (.reg fun call fr h k =>
  call q203 [(Tr.get .bad q0 fr), (.bool true)] h fun v0 h1 =>
  call q203 [(Tr.get .bad q1 fr), (.bool true)] h1 fun v1 h2 =>
  obind (pSub v0 v1) fun v2 =>
  forceG v2 fun v => Tr.setK .bad v q7 fr fun f7 =>
  k f7 h2)
 .skip))
 (.seq (.reg fun _ fr h k =>
  obind (pGeq (Tr.get .bad q7 fr) (.int .i64 (.ofNat 2147483648))) fun v0 =>
  guardC v0 false h (fun k => k (Tr.get .bad q7 fr) h) fun v1 h2 =>
  guardC v0 false h2 (fun k => obind (pLss v1 (.int .i64 (.negSucc 2147483647))) fun v => k v h2) fun v2 h3 =>
  obind (pPick v0 (.bool true) v2) fun v3 =>
  forceG v3 fun v => Tr.setK .bad v q6 fr fun f6 =>
  k f6 h3)
 .ret)))), resF [.t 6]⟩
theorem g204_ok : Comp Tryz.prog Tryz.f204 3 [6, 7, 13] g204 := ⟨_, [.t 6], rfl, by kernel_rfl, by decide, by kernel_rfl, by kernel_rfl, rfl, rfl⟩
/-- pianola/pianolaref6.Lies -/
def g205 : GFunc := ⟨4, (.seq (.reg fun _ fr h k =>
  forceG (.int .u32 (.ofNat 0)) fun v => Tr.setK .bad v q8 fr fun f8 =>
  forceG (.int .i64 (.ofNat 0)) fun v => Tr.setK .bad v q9 f8 fun f9 =>
  forceG (.bool false) fun v => Tr.setK .bad v q10 f9 fun f10 =>
  k f10 h)
 (.seq (.seq (.reg fun _ fr h k =>
  obind (pNeq (Tr.get .bad q2 fr) (.int .i64 (.ofNat 1))) fun v0 =>
  guardC v0 true h (fun k => k (Tr.get .bad q2 fr) h) fun v1 h2 =>
  guardC v0 true h2 (fun k => obind (pNeq v1 (.int .i64 (.ofNat 2))) fun v => k v h2) fun v2 h3 =>
  obind (pPick v0 v2 (.bool false)) fun v3 =>
  forceG v3 fun v => Tr.setK .bad v q16 fr fun f16 =>
  k f16 h3)
 (.cond 16 q16 (.reg fun _ fr h k =>
  forceG (.int .i64 (.ofNat 4)) fun v => Tr.setK .bad v q2 fr fun f2 =>
  k f2 h)
 .skip))
 (.seq (.seq (.reg fun call fr h k =>
  obind (pConv .u32 (Tr.get .bad q2 fr)) fun v0 =>
  obind (pRem (Tr.get .bad q1 fr) v0) fun v1 =>
  obind (pNeq v1 (.int .u32 (.ofNat 0))) fun v2 =>
  guardC v2 false h (fun k => k (Tr.get .bad q0 fr) h) fun v3 h4 =>
  guardC v2 false h4 (fun k => call q160 [v3] h4 k) fun v4 h5 =>
  guardC v2 false h5 (fun k => k v4 h5) fun v5 h6 =>
  guardC v5 true h6 (fun k => k (Tr.get .bad q1 fr) h6) fun v6 h7 =>
  guardC v5 true h7 (fun k => obind (pGeq v6 (.int .u32 (.ofNat 2147483648))) fun v => k v h7) fun v7 h8 =>
  guardC v2 false h8 (fun k => obind (pPick v5 v7 (.bool false)) fun v => k v h8) fun v8 h9 =>
  obind (pPick v2 (.bool true) v8) fun v9 =>
  forceG v9 fun v => Tr.setK .bad v q29 fr fun f29 =>
  k f29 h9)
 (.cond 29 q29 (.seq (.seq (.reg fun _ fr h k =>
  forceG (Tr.get .bad q3 fr) fun v => Tr.setK .bad v q30 fr fun f30 =>
  k f30 h)
 (.cond 30 q30 (.seq (.reg fun _ fr h k =>
  forceG (.int .u32 (.ofNat 0)) fun v => Tr.setK .bad v q8 fr fun f8 =>
  forceG (.int .i64 (.ofNat 5)) fun v => Tr.setK .bad v q9 f8 fun f9 =>
  forceG (.bool false) fun v => Tr.setK .bad v q10 f9 fun f10 =>
  k f10 h)
 .ret)
 .skip))
 (.seq (.reg fun _ fr h k =>
  forceG (.int .u32 (.ofNat 0)) fun v => Tr.setK .bad v q8 fr fun f8 =>
  forceG (.int .i64 (.ofNat 4)) fun v => Tr.setK .bad v q9 f8 fun f9 =>
  forceG (.bool false) fun v => Tr.setK .bad v q10 f9 fun f10 =>
  k f10 h)
 .ret))
 .skip))
 (.seq (.seq (.reg fun _ fr h k =>
  obind (pGeq (Tr.get .bad q1 fr) (.int .u32 (.ofNat 2147483648))) fun v0 =>
  guardC v0 true h (fun k => k (Tr.get .bad q1 fr) h) fun v1 h2 =>
  guardC v0 true h2 (fun k => obind (pLss v1 (.int .u32 (.ofNat 3221225472))) fun v => k v h2) fun v2 h3 =>
  obind (pPick v0 v2 (.bool false)) fun v3 =>
  forceG v3 fun v => Tr.setK .bad v q36 fr fun f36 =>
  k f36 h3)
 (.cond 36 q36 (.seq (.reg fun _ fr h k =>
  obind (pAnd (Tr.get .bad q1 fr) (.int .u32 (.ofNat 536870911))) fun v0 =>
  forceG v0 fun v => Tr.setK .bad v q8 fr fun f8 =>
  forceG (.int .i64 (.negSucc 0)) fun v => Tr.setK .bad v q9 f8 fun f9 =>
  forceG (.bool false) fun v => Tr.setK .bad v q10 f9 fun f10 =>
  k f10 h)
 .ret)
 .skip))
 (.seq (.reg fun call fr h k =>
  call q231 [(Tr.get .bad q0 fr), (Tr.get .bad q1 fr), (Tr.get .bad q3 fr)] h fun v0 h1 =>
  obind (pExt 0 v0) fun v1 =>
  obind (pExt 1 v0) fun v2 =>
  obind (pExt 2 v0) fun v3 =>
  forceG v1 fun v => Tr.setK .bad v q8 fr fun f8 =>
  forceG v2 fun v => Tr.setK .bad v q9 f8 fun f9 =>
  forceG v3 fun v => Tr.setK .bad v q10 f9 fun f10 =>
  k f10 h1)
 .ret))))), resF [.t 8, .t 9, .t 10]⟩
theorem g205_ok : Comp Tryz.prog Tryz.f205 4 [2, 8, 9, 10, 16, 29, 30, 36] g205 := ⟨_, [.t 8, .t 9, .t 10], rfl, by kernel_rfl, by decide, by kernel_rfl, by kernel_rfl, rfl, rfl⟩
/-- pianola/pianolaref6.Bad -/
def g206 : GFunc := ⟨3, (.seq (.reg fun _ fr h k =>
  obind (pNilck (Tr.get .bad q0 fr)) fun v0 =>
  obind (pFa 39 v0) fun v1 =>
  obind (pIdxA 16 1 v1 (.int .i64 (.ofNat 8))) fun v2 =>
  obind (wSt1 v2 (Tr.get .bad q1 fr) h) fun h4 =>
  k fr h4)
 (.seq (.reg fun _ fr h k =>
  forceG (Tr.get .bad q2 fr) fun v => Tr.setK .bad v q11 fr fun f11 =>
  k f11 h)
 (.cond 11 q11 (.reg fun _ fr h k =>
  obind (pNilck (Tr.get .bad q0 fr)) fun v0 =>
  obind (pFa 39 v0) fun v1 =>
  obind (pIdxA 16 1 v1 (.int .i64 (.ofNat 10))) fun v2 =>
  obind (rLd1 v2 h) fun v3 =>
  obind (pAnd v3 (.int .u32 (.ofNat 1023))) fun v4 =>
  obind (pAndNot (Tr.get .bad q1 fr) (.int .u32 (.ofNat 1023))) fun v5 =>
  obind (pOr v4 v5) fun v6 =>
  obind (pNilck (Tr.get .bad q0 fr)) fun v7 =>
  obind (pFa 39 v7) fun v8 =>
  obind (pIdxA 16 1 v8 (.int .i64 (.ofNat 10))) fun v9 =>
  obind (wSt1 v9 v6 h) fun h11 =>
  k fr h11)
 .skip))), resF []⟩
theorem g206_ok : Comp Tryz.prog Tryz.f206 3 [11] g206 := ⟨_, [], rfl, by kernel_rfl, by decide, by kernel_rfl, by kernel_rfl, rfl, rfl⟩
/-- pianola/pianolaref6.named -/
def g207 : GFunc := ⟨1, (.seq (.reg fun _ fr h k =>
  forceG (.bool false) fun v => Tr.setK .bad v q2 fr fun f2 =>
  k f2 h)
 (.seq (.reg fun _ fr h k =>
  obind (pGeq (Tr.get .bad q0 fr) (.int .i64 (.ofNat 0))) fun v0 =>
  guardC v0 true h (fun k => k (Tr.get .bad q0 fr) h) fun v1 h2 =>
  guardC v0 true h2 (fun k => obind (pLeq v1 (.int .i64 (.ofNat 2))) fun v => k v h2) fun v2 h3 =>
  obind (pPick v0 v2 (.bool false)) fun v3 =>
  guardC v3 false h3 (fun k => k (Tr.get .bad q0 fr) h3) fun v4 h5 =>
  guardC v3 false h5 (fun k => obind (pGeq v4 (.int .i64 (.ofNat 8))) fun v => k v h5) fun v5 h6 =>
  guardC v3 false h6 (fun k => k v5 h6) fun v6 h7 =>
  guardC v6 true h7 (fun k => k (Tr.get .bad q0 fr) h7) fun v7 h8 =>
  guardC v6 true h8 (fun k => obind (pLeq v7 (.int .i64 (.ofNat 15))) fun v => k v h8) fun v8 h9 =>
  guardC v3 false h9 (fun k => obind (pPick v6 v8 (.bool false)) fun v => k v h9) fun v9 h10 =>
  obind (pPick v3 (.bool true) v9) fun v10 =>
  forceG v10 fun v => Tr.setK .bad v q2 fr fun f2 =>
  k f2 h10)
 .ret)), resF [.t 2]⟩
theorem g207_ok : Comp Tryz.prog Tryz.f207 1 [2] g207 := ⟨_, [.t 2], rfl, by kernel_rfl, by decide, by kernel_rfl, by kernel_rfl, rfl, rfl⟩
/-- pianola/pianolaref6.Find -/
def g208 : GFunc := ⟨2, (.seq (.reg fun _ fr h k =>
  forceG (.int .i64 (.ofNat 0)) fun v => Tr.setK .bad v q4 fr fun f4 =>
  k f4 h)
 (.seq (.seq (.reg fun _ fr h k =>
  forceG (.int .i64 (.ofNat 0)) fun v => Tr.setK .bad v q5 fr fun f5 =>
  k f5 h)
 (.block 0 (.loop (.seq (.seq (.reg fun _ fr h k =>
  obind (pLss (Tr.get .bad q5 fr) (.int .i64 (.ofNat 8))) fun v0 =>
  forceG v0 fun v => Tr.setK .bad v q8 fr fun f8 =>
  k f8 h)
 (.cond 8 q8 .skip
 (.exit 0)))
 (.seq (.block 1 (.seq (.reg fun _ fr h k =>
  obind (pNilck (Tr.get .bad q0 fr)) fun v0 =>
  obind (pFa 55 v0) fun v1 =>
  obind (pIdxA 8 2 v1 (Tr.get .bad q5 fr)) fun v2 =>
  obind (rLdN 2 v2 h) fun v3 =>
  obind2 (nAlloc [.int .u32 (.ofNat 0), .int .u32 (.ofNat 0)] h) fun v4 h5 =>
  obind (wStN 2 v4 v3 h5) fun h6 =>
  forceG v4 fun v => Tr.setK .bad v q6 fr fun f6 =>
  k f6 h6)
 (.seq (.reg fun _ fr h k =>
  obind (pFa 0 (Tr.get .bad q6 fr)) fun v0 =>
  obind (rLd1 v0 h) fun v1 =>
  obind (pAndNot v1 (.int .u32 (.ofNat 1023))) fun v2 =>
  obind (pAndNot (Tr.get .bad q1 fr) (.int .u32 (.ofNat 1023))) fun v3 =>
  obind (pEql v2 v3) fun v4 =>
  guardC v4 true h (fun k => obind (pFa 1 (Tr.get .bad q6 fr)) fun v => k v h) fun v5 h6 =>
  guardC v4 true h6 (fun k => obind (rLd1 v5 h6) fun v => k v h6) fun v6 h7 =>
  guardC v4 true h7 (fun k => obind (pAnd v6 (.int .u32 (.ofNat 4))) fun v => k v h7) fun v7 h8 =>
  guardC v4 true h8 (fun k => obind (pNeq v7 (.int .u32 (.ofNat 0))) fun v => k v h8) fun v8 h9 =>
  guardC v4 true h9 (fun k => k v8 h9) fun v9 h10 =>
  guardC v9 false h10 (fun k => obind (pFa 0 (Tr.get .bad q6 fr)) fun v => k v h10) fun v10 h11 =>
  guardC v9 false h11 (fun k => obind (rLd1 v10 h11) fun v => k v h11) fun v11 h12 =>
  guardC v9 false h12 (fun k => obind (pAnd v11 (.int .u32 (.ofNat 255))) fun v => k v h12) fun v12 h13 =>
  guardC v9 false h13 (fun k => k (Tr.get .bad q0 fr) h13) fun v13 h14 =>
  guardC v9 false h14 (fun k => obind (pNilck v13) fun v => k v h14) fun v14 h15 =>
  guardC v9 false h15 (fun k => obind (pFa 39 v14) fun v => k v h15) fun v15 h16 =>
  guardC v9 false h16 (fun k => obind (pIdxA 16 1 v15 (.int .i64 (.ofNat 10))) fun v => k v h16) fun v16 h17 =>
  guardC v9 false h17 (fun k => obind (rLd1 v16 h17) fun v => k v h17) fun v17 h18 =>
  guardC v9 false h18 (fun k => obind (pAnd v17 (.int .u32 (.ofNat 255))) fun v => k v h18) fun v18 h19 =>
  guardC v9 false h19 (fun k => obind (pEql v12 v18) fun v => k v h19) fun v19 h20 =>
  guardC v4 true h20 (fun k => obind (pPick v9 (.bool true) v19) fun v => k v h20) fun v20 h21 =>
  obind (pPick v4 v20 (.bool false)) fun v21 =>
  forceG v21 fun v => Tr.setK .bad v q40 fr fun f40 =>
  k f40 h21)
 (.cond 40 q40 (.seq (.reg fun _ fr h k =>
  forceG (Tr.get .bad q5 fr) fun v => Tr.setK .bad v q4 fr fun f4 =>
  k f4 h)
 .ret)
 .skip))))
 (.reg fun _ fr h k =>
  obind (pAdd (Tr.get .bad q5 fr) (.int .i64 (.ofNat 1))) fun v0 =>
  forceG v0 fun v => Tr.setK .bad v q5 fr fun f5 =>
  k f5 h))))))
 (.seq (.reg fun _ fr h k =>
  forceG (.int .i64 (.negSucc 0)) fun v => Tr.setK .bad v q4 fr fun f4 =>
  k f4 h)
 .ret))), resF [.t 4]⟩
theorem g208_ok : Comp Tryz.prog Tryz.f208 2 [4, 5, 6, 8, 40] g208 := ⟨_, [.t 4], rfl, by kernel_rfl, by decide, by kernel_rfl, by kernel_rfl, rfl, rfl⟩
/-- pianola/pianolaref4.shift -/
def g209 : GFunc := ⟨3, (.seq (.reg fun _ fr h k =>
  forceG (.int .u32 (.ofNat 0)) fun v => Tr.setK .bad v q6 fr fun f6 =>
  k f6 h)
 (.seq (.reg fun _ fr h k =>
  obind (pRem (Tr.get .bad q2 fr) (.int .i64 (.ofNat 32))) fun v0 =>
  obind (pAdd v0 (.int .i64 (.ofNat 32))) fun v1 =>
  obind (pRem v1 (.int .i64 (.ofNat 32))) fun v2 =>
  obind (pConv .u64 v2) fun v3 =>
  forceG v3 fun v => Tr.setK .bad v q7 fr fun f7 =>
  k f7 h)
 (.seq (.seq (.reg fun _ fr h k =>
  forceG (Tr.get .bad q0 fr) fun v => Tr.setK .bad v q13 fr fun f13 =>
  k f13 h)
 (.block 0 (.seq (.reg fun _ fr h k =>
  obind (pEql (Tr.get .bad q13 fr) (.int .i64 (.ofNat 0))) fun v0 =>
  forceG v0 fun v => Tr.setK .bad v q14 fr fun f14 =>
  k f14 h)
 (.cond 14 q14 (.seq (.reg fun _ fr h k =>
  obind (pShl (Tr.get .bad q1 fr) (Tr.get .bad q7 fr)) fun v0 =>
  forceG v0 fun v => Tr.setK .bad v q6 fr fun f6 =>
  k f6 h)
 .ret)
 (.seq (.reg fun _ fr h k =>
  obind (pEql (Tr.get .bad q13 fr) (.int .i64 (.ofNat 1))) fun v0 =>
  forceG v0 fun v => Tr.setK .bad v q19 fr fun f19 =>
  k f19 h)
 (.cond 19 q19 (.seq (.reg fun _ fr h k =>
  obind (pShr (Tr.get .bad q1 fr) (Tr.get .bad q7 fr)) fun v0 =>
  forceG v0 fun v => Tr.setK .bad v q6 fr fun f6 =>
  k f6 h)
 .ret)
 .skip))))))
 (.seq (.reg fun call fr h k =>
  call q153 [(Tr.get .bad q1 fr), (Tr.get .bad q2 fr)] h fun v0 h1 =>
  forceG v0 fun v => Tr.setK .bad v q6 fr fun f6 =>
  k f6 h1)
 .ret)))), resF [.t 6]⟩
theorem g209_ok : Comp Tryz.prog Tryz.f209 3 [6, 7, 13, 14, 19] g209 := ⟨_, [.t 6], rfl, by kernel_rfl, by decide, by kernel_rfl, by kernel_rfl, rfl, rfl⟩
/-- pianola/pianolaref4.bit -/
def g210 : GFunc := ⟨1, (.seq (.reg fun _ fr h k =>
  forceG (.int .u32 (.ofNat 0)) fun v => Tr.setK .bad v q2 fr fun f2 =>
  k f2 h)
 (.seq (.seq (.reg fun _ fr h k =>
  forceG (Tr.get .bad q0 fr) fun v => Tr.setK .bad v q3 fr fun f3 =>
  k f3 h)
 (.cond 3 q3 (.seq (.reg fun _ fr h k =>
  forceG (.int .u32 (.ofNat 1)) fun v => Tr.setK .bad v q2 fr fun f2 =>
  k f2 h)
 .ret)
 .skip))
 (.seq (.reg fun _ fr h k =>
  forceG (.int .u32 (.ofNat 0)) fun v => Tr.setK .bad v q2 fr fun f2 =>
  k f2 h)
 .ret))), resF [.t 2]⟩
theorem g210_ok : Comp Tryz.prog Tryz.f210 1 [2, 3] g210 := ⟨_, [.t 2], rfl, by kernel_rfl, by decide, by kernel_rfl, by kernel_rfl, rfl, rfl⟩
/-- pianola/pianolaref4.Is -/
def g211 : GFunc := ⟨1, (.seq (.reg fun _ fr h k =>
  forceG (.bool false) fun v => Tr.setK .bad v q2 fr fun f2 =>
  k f2 h)
 (.seq (.reg fun _ fr h k =>
  obind (pGeq (Tr.get .bad q0 fr) (.int .i64 (.ofNat 1))) fun v0 =>
  guardC v0 true h (fun k => k (Tr.get .bad q0 fr) h) fun v1 h2 =>
  guardC v0 true h2 (fun k => obind (pLeq v1 (.int .i64 (.ofNat 6))) fun v => k v h2) fun v2 h3 =>
  obind (pPick v0 v2 (.bool false)) fun v3 =>
  guardC v3 false h3 (fun k => k (Tr.get .bad q0 fr) h3) fun v4 h5 =>
  guardC v3 false h5 (fun k => obind (pGeq v4 (.int .i64 (.ofNat 22))) fun v => k v h5) fun v5 h6 =>
  guardC v3 false h6 (fun k => k v5 h6) fun v6 h7 =>
  guardC v6 true h7 (fun k => k (Tr.get .bad q0 fr) h7) fun v7 h8 =>
  guardC v6 true h8 (fun k => obind (pLeq v7 (.int .i64 (.ofNat 31))) fun v => k v h8) fun v8 h9 =>
  guardC v3 false h9 (fun k => obind (pPick v6 v8 (.bool false)) fun v => k v h9) fun v9 h10 =>
  obind (pPick v3 (.bool true) v9) fun v10 =>
  guardC v10 false h10 (fun k => k (Tr.get .bad q0 fr) h10) fun v11 h12 =>
  guardC v10 false h12 (fun k => obind (pGeq v11 (.int .i64 (.ofNat 46))) fun v => k v h12) fun v12 h13 =>
  guardC v10 false h13 (fun k => k v12 h13) fun v13 h14 =>
  guardC v13 true h14 (fun k => k (Tr.get .bad q0 fr) h14) fun v14 h15 =>
  guardC v13 true h15 (fun k => obind (pLeq v14 (.int .i64 (.ofNat 53))) fun v => k v h15) fun v15 h16 =>
  guardC v10 false h16 (fun k => obind (pPick v13 v15 (.bool false)) fun v => k v h16) fun v16 h17 =>
  obind (pPick v10 (.bool true) v16) fun v17 =>
  guardC v17 false h17 (fun k => k (Tr.get .bad q0 fr) h17) fun v18 h19 =>
  guardC v17 false h19 (fun k => obind (pEql v18 (.int .i64 (.ofNat 63))) fun v => k v h19) fun v19 h20 =>
  obind (pPick v17 (.bool true) v19) fun v20 =>
  guardC v20 false h20 (fun k => k (Tr.get .bad q0 fr) h20) fun v21 h22 =>
  guardC v20 false h22 (fun k => obind (pEql v21 (.int .i64 (.ofNat 64))) fun v => k v h22) fun v22 h23 =>
  obind (pPick v20 (.bool true) v22) fun v23 =>
  guardC v23 false h23 (fun k => k (Tr.get .bad q0 fr) h23) fun v24 h25 =>
  guardC v23 false h25 (fun k => obind (pEql v24 (.int .i64 (.ofNat 65))) fun v => k v h25) fun v25 h26 =>
  obind (pPick v23 (.bool true) v25) fun v26 =>
  forceG v26 fun v => Tr.setK .bad v q2 fr fun f2 =>
  k f2 h26)
 .ret)), resF [.t 2]⟩
theorem g211_ok : Comp Tryz.prog Tryz.f211 1 [2] g211 := ⟨_, [.t 2], rfl, by kernel_rfl, by decide, by kernel_rfl, by kernel_rfl, rfl, rfl⟩
/-- pianola/decode.table -/
def g213 : GFunc := ⟨1, (.seq (.reg fun _ fr h k =>
  forceG (.int .i64 (.ofNat 0)) fun v => Tr.setK .bad v q2 fr fun f2 =>
  k f2 h)
 (.seq (.seq (.reg fun _ fr h k =>
  forceG (Tr.get .bad q0 fr) fun v => Tr.setK .bad v q3 fr fun f3 =>
  k f3 h)
 (.block 0 (.seq (.reg fun _ fr h k =>
  obind (pEql (Tr.get .bad q3 fr) (.int .u32 (.ofNat 1))) fun v0 =>
  forceG v0 fun v => Tr.setK .bad v q4 fr fun f4 =>
  k f4 h)
 (.cond 4 q4 (.seq (.reg fun _ fr h k =>
  forceG (.int .i64 (.ofNat 56)) fun v => Tr.setK .bad v q2 fr fun f2 =>
  k f2 h)
 .ret)
 (.seq (.reg fun _ fr h k =>
  obind (pEql (Tr.get .bad q3 fr) (.int .u32 (.ofNat 2))) fun v0 =>
  forceG v0 fun v => Tr.setK .bad v q6 fr fun f6 =>
  k f6 h)
 (.cond 6 q6 (.seq (.reg fun _ fr h k =>
  forceG (.int .i64 (.ofNat 57)) fun v => Tr.setK .bad v q2 fr fun f2 =>
  k f2 h)
 .ret)
 (.seq (.reg fun _ fr h k =>
  obind (pEql (Tr.get .bad q3 fr) (.int .u32 (.ofNat 6))) fun v0 =>
  forceG v0 fun v => Tr.setK .bad v q8 fr fun f8 =>
  k f8 h)
 (.cond 8 q8 (.seq (.reg fun _ fr h k =>
  forceG (.int .i64 (.ofNat 58)) fun v => Tr.setK .bad v q2 fr fun f2 =>
  k f2 h)
 .ret)
 (.seq (.reg fun _ fr h k =>
  obind (pEql (Tr.get .bad q3 fr) (.int .u32 (.ofNat 8))) fun v0 =>
  forceG v0 fun v => Tr.setK .bad v q10 fr fun f10 =>
  k f10 h)
 (.cond 10 q10 (.seq (.reg fun _ fr h k =>
  forceG (.int .i64 (.ofNat 59)) fun v => Tr.setK .bad v q2 fr fun f2 =>
  k f2 h)
 .ret)
 (.seq (.reg fun _ fr h k =>
  obind (pEql (Tr.get .bad q3 fr) (.int .u32 (.ofNat 24))) fun v0 =>
  forceG v0 fun v => Tr.setK .bad v q12 fr fun f12 =>
  k f12 h)
 (.cond 12 q12 (.seq (.reg fun _ fr h k =>
  forceG (.int .i64 (.ofNat 60)) fun v => Tr.setK .bad v q2 fr fun f2 =>
  k f2 h)
 .ret)
 (.seq (.reg fun _ fr h k =>
  obind (pEql (Tr.get .bad q3 fr) (.int .u32 (.ofNat 32))) fun v0 =>
  forceG v0 fun v => Tr.setK .bad v q14 fr fun f14 =>
  k f14 h)
 (.cond 14 q14 (.seq (.reg fun _ fr h k =>
  forceG (.int .i64 (.ofNat 61)) fun v => Tr.setK .bad v q2 fr fun f2 =>
  k f2 h)
 .ret)
 .skip))))))))))))))
 (.seq (.reg fun _ fr h k =>
  forceG (.int .i64 (.ofNat 0)) fun v => Tr.setK .bad v q2 fr fun f2 =>
  k f2 h)
 .ret))), resF [.t 2]⟩
theorem g213_ok : Comp Tryz.prog Tryz.f213 1 [2, 3, 4, 6, 8, 10, 12, 14] g213 := ⟨_, [.t 2], rfl, by kernel_rfl, by decide, by kernel_rfl, by kernel_rfl, rfl, rfl⟩
/-- pianola/opt.right -/
def g214 : GFunc := ⟨1, (.seq (.reg fun _ fr h k =>
  forceG (.bool false) fun v => Tr.setK .bad v q2 fr fun f2 =>
  k f2 h)
 (.seq (.seq (.reg fun _ fr h k =>
  obind (pLenS (Tr.get .bad q0 fr)) fun v0 =>
  forceG (Tr.get .bad q0 fr) fun v => Tr.setK .bad v q5 fr fun f5 =>
  forceG v0 fun v => Tr.setK .bad v q6 f5 fun f6 =>
  forceG (.int .i64 (.ofNat 0)) fun v => Tr.setK .bad v q7 f6 fun f7 =>
  k f7 h)
 (.block 0 (.loop (.seq (.reg fun _ fr h k =>
  obind (pLss (Tr.get .bad q7 fr) (Tr.get .bad q6 fr)) fun v0 =>
  forceG v0 fun v => Tr.setK .bad v q8 fr fun f8 =>
  k f8 h)
 (.seq (.cond 8 q8 .skip
 (.exit 0))
 (.seq (.block 1 (.seq (.reg fun _ fr h k =>
  obind (pIdxS 5 (Tr.get .bad q5 fr) (Tr.get .bad q7 fr)) fun v0 =>
  obind (rLdN 5 v0 h) fun v1 =>
  obind2 (nAlloc [.int .i64 (.ofNat 0), .int .i64 (.ofNat 0), .int .i64 (.ofNat 0), .int .i64 (.ofNat 0), .int .u32 (.ofNat 0)] h) fun v2 h3 =>
  obind (wStN 5 v2 v1 h3) fun h4 =>
  forceG v2 fun v => Tr.setK .bad v q4 fr fun f4 =>
  k f4 h4)
 (.seq (.reg fun call fr h k =>
  obind (rLdN 5 (Tr.get .bad q4 fr) h) fun v0 =>
  call q232 [v0] h fun v1 h2 =>
  obind (pNot v1) fun v2 =>
  forceG v2 fun v => Tr.setK .bad v q13 fr fun f13 =>
  k f13 h2)
 (.cond 13 q13 (.seq (.reg fun _ fr h k =>
  forceG (.bool false) fun v => Tr.setK .bad v q2 fr fun f2 =>
  k f2 h)
 .ret)
 .skip))))
 (.reg fun _ fr h k =>
  obind (pAdd (Tr.get .bad q7 fr) (.int .i64 (.ofNat 1))) fun v0 =>
  forceG v0 fun v => Tr.setK .bad v q7 fr fun f7 =>
  k f7 h)))))))
 (.seq (.reg fun _ fr h k =>
  forceG (.bool true) fun v => Tr.setK .bad v q2 fr fun f2 =>
  k f2 h)
 .ret))), resF [.t 2]⟩
theorem g214_ok : Comp Tryz.prog Tryz.f214 1 [2, 4, 5, 6, 7, 8, 13] g214 := ⟨_, [.t 2], rfl, by kernel_rfl, by decide, by kernel_rfl, by kernel_rfl, rfl, rfl⟩
/-- pianola/ir.Writes -/
def g215 : GFunc := ⟨1, (.seq (.reg fun _ fr h k =>
  obind2 (nBox (Tr.get .bad q0 fr) h) fun v0 h1 =>
  forceG v0 fun v => Tr.setK .bad v q1 fr fun f1 =>
  forceG .nils fun v => Tr.setK .bad v q2 f1 fun f2 =>
  k f2 h1)
 (.seq (.seq (.reg fun _ fr h k =>
  obind (pFa 0 (Tr.get .bad q1 fr)) fun v0 =>
  obind (rLd1 v0 h) fun v1 =>
  forceG v1 fun v => Tr.setK .bad v q3 fr fun f3 =>
  k f3 h)
 (.block 0 (.seq (.reg fun call fr h k =>
  obind (rLdN 5 (Tr.get .bad q1 fr) h) fun v0 =>
  call q232 [v0] h fun v1 h2 =>
  obind (pNot v1) fun v2 =>
  guardC v2 false h2 (fun k => k (Tr.get .bad q3 fr) h2) fun v3 h4 =>
  guardC v2 false h4 (fun k => obind (pEql v3 (.int .i64 (.ofNat 0))) fun v => k v h4) fun v4 h5 =>
  obind (pPick v2 (.bool true) v4) fun v5 =>
  forceG v5 fun v => Tr.setK .bad v q6 fr fun f6 =>
  k f6 h5)
 (.cond 6 q6 (.seq (.reg fun _ fr h k =>
  forceG .nils fun v => Tr.setK .bad v q2 fr fun f2 =>
  k f2 h)
 .ret)
 (.seq (.reg fun _ fr h k =>
  obind (pGeq (Tr.get .bad q3 fr) (.int .i64 (.ofNat 17))) fun v0 =>
  guardC v0 true h (fun k => k (Tr.get .bad q3 fr) h) fun v1 h2 =>
  guardC v0 true h2 (fun k => obind (pLeq v1 (.int .i64 (.ofNat 20))) fun v => k v h2) fun v2 h3 =>
  obind (pPick v0 v2 (.bool false)) fun v3 =>
  forceG v3 fun v => Tr.setK .bad v q14 fr fun f14 =>
  k f14 h3)
 (.cond 14 q14 (.seq (.reg fun _ fr h k =>
  obind2 (nBuildS (rep [.int .i64 (.ofNat 0)] 2) 2 1 (some (.i64, 64)) [(0, 1, (.int .i64 (.ofNat 32))), (1, 1, (.int .i64 (.ofNat 33)))] h) fun v0 h1 =>
  forceG v0 fun v => Tr.setK .bad v q2 fr fun f2 =>
  k f2 h1)
 .ret)
 (.seq (.reg fun _ fr h k =>
  obind (pFa 1 (Tr.get .bad q1 fr)) fun v0 =>
  obind (rLd1 v0 h) fun v1 =>
  obind (pEql v1 (.int .i64 (.ofNat 0))) fun v2 =>
  forceG v2 fun v => Tr.setK .bad v q22 fr fun f22 =>
  k f22 h)
 (.cond 22 q22 (.seq (.reg fun _ fr h k =>
  forceG .nils fun v => Tr.setK .bad v q2 fr fun f2 =>
  k f2 h)
 .ret)
 .skip))))))))
 (.seq (.reg fun _ fr h k =>
  obind (pFa 1 (Tr.get .bad q1 fr)) fun v0 =>
  obind (rLd1 v0 h) fun v1 =>
  obind2 (nBuildS (rep [.int .i64 (.ofNat 0)] 1) 1 1 (some (.i64, 64)) [(0, 1, v1)] h) fun v2 h3 =>
  forceG v2 fun v => Tr.setK .bad v q2 fr fun f2 =>
  k f2 h3)
 .ret))), resF [.t 2]⟩
theorem g215_ok : Comp Tryz.prog Tryz.f215 1 [1, 2, 3, 6, 14, 22] g215 := ⟨_, [.t 2], rfl, by kernel_rfl, by decide, by kernel_rfl, by kernel_rfl, rfl, rfl⟩
/-- slices.ContainsFunc[[]int,int] -/
def g216 : GFunc := ⟨2, (.seq (.reg fun _ fr h k =>
  forceG (.bool false) fun v => Tr.setK .bad v q4 fr fun f4 =>
  k f4 h)
 (.seq (.reg fun call fr h k =>
  call q233 [(Tr.get .bad q0 fr), (Tr.get .bad q1 fr)] h fun v0 h1 =>
  obind (pGeq v0 (.int .i64 (.ofNat 0))) fun v1 =>
  forceG v1 fun v => Tr.setK .bad v q4 fr fun f4 =>
  k f4 h1)
 .ret)), resF [.t 4]⟩
theorem g216_ok : Comp Tryz.prog Tryz.f216 2 [4] g216 := ⟨_, [.t 4], rfl, by kernel_rfl, by decide, by kernel_rfl, by kernel_rfl, rfl, rfl⟩
/-- pianola/opt.Dead$1 -/
def g217 : GFunc := ⟨2, (.seq (.reg fun _ fr h k =>
  forceG (.bool false) fun v => Tr.setK .bad v q3 fr fun f3 =>
  k f3 h)
 (.seq (.reg fun _ fr h k =>
  obind (pIdxA 40 1 (Tr.get .bad q1 fr) (Tr.get .bad q0 fr)) fun v0 =>
  obind (rLd1 v0 h) fun v1 =>
  forceG v1 fun v => Tr.setK .bad v q3 fr fun f3 =>
  k f3 h)
 .ret)), resF [.t 3]⟩
theorem g217_ok : Comp Tryz.prog Tryz.f217 2 [3] g217 := ⟨_, [.t 3], rfl, by kernel_rfl, by decide, by kernel_rfl, by kernel_rfl, rfl, rfl⟩
/-- pianola/opt.sure -/
def g218 : GFunc := ⟨1, (.seq (.reg fun _ fr h k =>
  obind2 (nBox (Tr.get .bad q0 fr) h) fun v0 h1 =>
  forceG v0 fun v => Tr.setK .bad v q1 fr fun f1 =>
  forceG (.bool false) fun v => Tr.setK .bad v q2 f1 fun f2 =>
  k f2 h1)
 (.seq (.reg fun _ fr h k =>
  obind (pFa 0 (Tr.get .bad q1 fr)) fun v0 =>
  obind (rLd1 v0 h) fun v1 =>
  obind (pNeq v1 (.int .i64 (.ofNat 21))) fun v2 =>
  guardC v2 true h (fun k => obind (pFa 0 (Tr.get .bad q1 fr)) fun v => k v h) fun v3 h4 =>
  guardC v2 true h4 (fun k => obind (rLd1 v3 h4) fun v => k v h4) fun v4 h5 =>
  guardC v2 true h5 (fun k => obind (pNeq v4 (.int .i64 (.ofNat 22))) fun v => k v h5) fun v5 h6 =>
  obind (pPick v2 v5 (.bool false)) fun v6 =>
  forceG v6 fun v => Tr.setK .bad v q2 fr fun f2 =>
  k f2 h6)
 .ret)), resF [.t 2]⟩
theorem g218_ok : Comp Tryz.prog Tryz.f218 1 [1, 2] g218 := ⟨_, [.t 2], rfl, by kernel_rfl, by decide, by kernel_rfl, by kernel_rfl, rfl, rfl⟩
/-- pianola/ir.Reads -/
def g219 : GFunc := ⟨1, (.seq (.reg fun _ fr h k =>
  obind2 (nBox (Tr.get .bad q0 fr) h) fun v0 h1 =>
  forceG v0 fun v => Tr.setK .bad v q1 fr fun f1 =>
  forceG .nils fun v => Tr.setK .bad v q2 f1 fun f2 =>
  k f2 h1)
 (.seq (.reg fun _ fr h k =>
  forceG .nils fun v => Tr.setK .bad v q3 fr fun f3 =>
  k f3 h)
 (.seq (.seq (.reg fun _ fr h k =>
  obind (pFa 0 (Tr.get .bad q1 fr)) fun v0 =>
  obind (rLd1 v0 h) fun v1 =>
  forceG v1 fun v => Tr.setK .bad v q4 fr fun f4 =>
  k f4 h)
 (.block 0 (.seq (.reg fun call fr h k =>
  obind (rLdN 5 (Tr.get .bad q1 fr) h) fun v0 =>
  call q232 [v0] h fun v1 h2 =>
  obind (pNot v1) fun v2 =>
  guardC v2 false h2 (fun k => k (Tr.get .bad q4 fr) h2) fun v3 h4 =>
  guardC v2 false h4 (fun k => obind (pEql v3 (.int .i64 (.ofNat 0))) fun v => k v h4) fun v4 h5 =>
  obind (pPick v2 (.bool true) v4) fun v5 =>
  guardC v5 false h5 (fun k => k (Tr.get .bad q4 fr) h5) fun v6 h7 =>
  guardC v5 false h7 (fun k => obind (pEql v6 (.int .i64 (.ofNat 1))) fun v => k v h7) fun v7 h8 =>
  obind (pPick v5 (.bool true) v7) fun v8 =>
  forceG v8 fun v => Tr.setK .bad v q12 fr fun f12 =>
  k f12 h8)
 (.cond 12 q12 .skip
 (.seq (.reg fun _ fr h k =>
  obind (pEql (Tr.get .bad q4 fr) (.int .i64 (.ofNat 2))) fun v0 =>
  guardC v0 false h (fun k => k (Tr.get .bad q4 fr) h) fun v1 h2 =>
  guardC v0 false h2 (fun k => obind (pEql v1 (.int .i64 (.ofNat 15))) fun v => k v h2) fun v2 h3 =>
  obind (pPick v0 (.bool true) v2) fun v3 =>
  guardC v3 false h3 (fun k => k (Tr.get .bad q4 fr) h3) fun v4 h5 =>
  guardC v3 false h5 (fun k => obind (pEql v4 (.int .i64 (.ofNat 16))) fun v => k v h5) fun v5 h6 =>
  obind (pPick v3 (.bool true) v5) fun v6 =>
  forceG v6 fun v => Tr.setK .bad v q24 fr fun f24 =>
  k f24 h6)
 (.cond 24 q24 (.reg fun _ fr h k =>
  obind (pFa 2 (Tr.get .bad q1 fr)) fun v0 =>
  obind (rLd1 v0 h) fun v1 =>
  obind2 (nBuildS (rep [.int .i64 (.ofNat 0)] 1) 1 1 (some (.i64, 64)) [(0, 1, v1)] h) fun v2 h3 =>
  forceG v2 fun v => Tr.setK .bad v q3 fr fun f3 =>
  k f3 h3)
 (.seq (.reg fun _ fr h k =>
  obind (pEql (Tr.get .bad q4 fr) (.int .i64 (.ofNat 21))) fun v0 =>
  guardC v0 false h (fun k => k (Tr.get .bad q4 fr) h) fun v1 h2 =>
  guardC v0 false h2 (fun k => obind (pEql v1 (.int .i64 (.ofNat 22))) fun v => k v h2) fun v2 h3 =>
  obind (pPick v0 (.bool true) v2) fun v3 =>
  forceG v3 fun v => Tr.setK .bad v q38 fr fun f38 =>
  k f38 h3)
 (.cond 38 q38 (.reg fun _ fr h k =>
  obind (pFa 2 (Tr.get .bad q1 fr)) fun v0 =>
  obind (rLd1 v0 h) fun v1 =>
  obind (pFa 3 (Tr.get .bad q1 fr)) fun v2 =>
  obind (rLd1 v2 h) fun v3 =>
  obind (pFa 1 (Tr.get .bad q1 fr)) fun v4 =>
  obind (rLd1 v4 h) fun v5 =>
  obind2 (nBuildS (rep [.int .i64 (.ofNat 0)] 3) 3 1 (some (.i64, 64)) [(0, 1, v1), (1, 1, v3), (2, 1, v5)] h) fun v6 h7 =>
  forceG v6 fun v => Tr.setK .bad v q3 fr fun f3 =>
  k f3 h7)
 (.reg fun _ fr h k =>
  obind (pFa 2 (Tr.get .bad q1 fr)) fun v0 =>
  obind (rLd1 v0 h) fun v1 =>
  obind (pFa 3 (Tr.get .bad q1 fr)) fun v2 =>
  obind (rLd1 v2 h) fun v3 =>
  obind2 (nBuildS (rep [.int .i64 (.ofNat 0)] 2) 2 1 (some (.i64, 64)) [(0, 1, v1), (1, 1, v3)] h) fun v4 h5 =>
  forceG v4 fun v => Tr.setK .bad v q3 fr fun f3 =>
  k f3 h5)))))))))
 (.seq (.reg fun call fr h k =>
  call q234 [(Tr.get .bad q3 fr)] h fun _ h1 =>
  k fr h1)
 (.seq (.reg fun call fr h k =>
  call q235 [(Tr.get .bad q3 fr)] h fun v0 h1 =>
  forceG v0 fun v => Tr.setK .bad v q2 fr fun f2 =>
  k f2 h1)
 .ret))))), resF [.t 2]⟩
theorem g219_ok : Comp Tryz.prog Tryz.f219 1 [1, 2, 3, 4, 12, 24, 38] g219 := ⟨_, [.t 2], rfl, by kernel_rfl, by decide, by kernel_rfl, by kernel_rfl, rfl, rfl⟩
/-- slices.Reverse[[]pianola/ir.Op,pianola/ir.Op] -/
def g220 : GFunc := ⟨1, (.seq (.reg fun _ fr h k =>
  obind (pLenS (Tr.get .bad q0 fr)) fun v0 =>
  obind (pSub v0 (.int .i64 (.ofNat 1))) fun v1 =>
  forceG (.int .i64 (.ofNat 0)) fun v => Tr.setK .bad v q2 fr fun f2 =>
  forceG v1 fun v => Tr.setK .bad v q3 f2 fun f3 =>
  k f3 h)
 (.block 0 (.loop (.seq (.seq (.reg fun _ fr h k =>
  obind (pLss (Tr.get .bad q2 fr) (Tr.get .bad q3 fr)) fun v0 =>
  forceG v0 fun v => Tr.setK .bad v q9 fr fun f9 =>
  k f9 h)
 (.cond 9 q9 .skip
 (.exit 0)))
 (.seq (.block 1 (.reg fun _ fr h k =>
  obind (pIdxS 5 (Tr.get .bad q0 fr) (Tr.get .bad q3 fr)) fun v0 =>
  obind (rLdN 5 v0 h) fun v1 =>
  obind (pIdxS 5 (Tr.get .bad q0 fr) (Tr.get .bad q2 fr)) fun v2 =>
  obind (rLdN 5 v2 h) fun v3 =>
  obind (pIdxS 5 (Tr.get .bad q0 fr) (Tr.get .bad q2 fr)) fun v4 =>
  obind (wStN 5 v4 v1 h) fun h6 =>
  obind (pIdxS 5 (Tr.get .bad q0 fr) (Tr.get .bad q3 fr)) fun v6 =>
  obind (wStN 5 v6 v3 h6) fun h8 =>
  k fr h8))
 (.reg fun _ fr h k =>
  obind (pAdd (Tr.get .bad q2 fr) (.int .i64 (.ofNat 1))) fun v0 =>
  obind (pSub (Tr.get .bad q3 fr) (.int .i64 (.ofNat 1))) fun v1 =>
  forceG v0 fun v => Tr.setK .bad v q2 fr fun f2 =>
  forceG v1 fun v => Tr.setK .bad v q3 f2 fun f3 =>
  k f3 h)))))), resF []⟩
theorem g220_ok : Comp Tryz.prog Tryz.f220 1 [2, 3, 9] g220 := ⟨_, [], rfl, by kernel_rfl, by decide, by kernel_rfl, by kernel_rfl, rfl, rfl⟩
/-- (*pianola/opt.facts).fold -/
def g221 : GFunc := ⟨2, (.seq (.reg fun _ fr h k =>
  obind2 (nBox (Tr.get .bad q1 fr) h) fun v0 h1 =>
  obind2 (nAlloc [.int .i64 (.ofNat 0), .int .i64 (.ofNat 0), .int .i64 (.ofNat 0), .int .i64 (.ofNat 0), .int .u32 (.ofNat 0)] h1) fun v1 h2 =>
  forceG v0 fun v => Tr.setK .bad v q3 fr fun f3 =>
  forceG v1 fun v => Tr.setK .bad v q4 f3 fun f4 =>
  forceG (.bool false) fun v => Tr.setK .bad v q5 f4 fun f5 =>
  k f5 h2)
 (.seq (.reg fun call fr h k =>
  obind (rLdN 5 (Tr.get .bad q3 fr) h) fun v0 =>
  call q215 [v0] h fun v1 h2 =>
  forceG v1 fun v => Tr.setK .bad v q6 fr fun f6 =>
  k f6 h2)
 (.seq (.block 0 (.seq (.reg fun call fr h k =>
  obind (rLdN 5 (Tr.get .bad q3 fr) h) fun v0 =>
  call q218 [v0] h fun v1 h2 =>
  obind (pNot v1) fun v2 =>
  guardC v2 true h2 (fun k => k (Tr.get .bad q0 fr) h2) fun v3 h4 =>
  guardC v2 true h4 (fun k => obind (pFa 3 (Tr.get .bad q3 fr)) fun v => k v h4) fun v4 h5 =>
  guardC v2 true h5 (fun k => obind (rLd1 v4 h5) fun v => k v h5) fun v5 h6 =>
  guardC v2 true h6 (fun k => obind (pNilck v3) fun v => k v h6) fun v6 h7 =>
  guardC v2 true h7 (fun k => obind (pFa 0 v6) fun v => k v h7) fun v7 h8 =>
  guardC v2 true h8 (fun k => obind (pIdxA 40 1 v7 v5) fun v => k v h8) fun v8 h9 =>
  guardC v2 true h9 (fun k => obind (rLd1 v8 h9) fun v => k v h9) fun v9 h10 =>
  obind (pPick v2 v9 (.bool false)) fun v10 =>
  forceG v10 fun v => Tr.setK .bad v q10 fr fun f10 =>
  k f10 h10)
 (.cond 10 q10 (.seq (.reg fun _ fr h k =>
  obind (pFa 1 (Tr.get .bad q3 fr)) fun v0 =>
  obind (rLd1 v0 h) fun v1 =>
  obind (pFa 2 (Tr.get .bad q3 fr)) fun v2 =>
  obind (rLd1 v2 h) fun v3 =>
  obind (pBuild [.int .i64 (.ofNat 0), .int .i64 (.ofNat 0), .int .i64 (.ofNat 0), .int .i64 (.ofNat 0), .int .u32 (.ofNat 0)] [(0, 1, (.int .i64 (.ofNat 2))), (1, 1, v1), (2, 1, v3)]) fun v4 =>
  obind (pFa 3 (Tr.get .bad q3 fr)) fun v5 =>
  obind (rLd1 v5 h) fun v6 =>
  obind (pNilck (Tr.get .bad q0 fr)) fun v7 =>
  obind (pFa 40 v7) fun v8 =>
  obind (pIdxA 40 1 v8 v6) fun v9 =>
  obind (rLd1 v9 h) fun v10 =>
  obind (pEql v10 (.int .u32 (.ofNat 0))) fun v11 =>
  obind (pFa 0 (Tr.get .bad q3 fr)) fun v12 =>
  obind (rLd1 v12 h) fun v13 =>
  obind (pEql v13 (.int .i64 (.ofNat 21))) fun v14 =>
  obind (pEqlB v11 v14) fun v15 =>
  obind (wStN 5 (Tr.get .bad q4 fr) v4 h) fun h17 =>
  chk v6 (rLd1 v5 h17) <|
  chk v10 (rLd1 v9 h17) <|
  chk v13 (rLd1 v12 h17) <|
  forceG v15 fun v => Tr.setK .bad v q5 fr fun f5 =>
  k f5 h17)
 .ret)
 (.seq (.reg fun call fr h k =>
  obind (rLdN 5 (Tr.get .bad q3 fr) h) fun v0 =>
  call q218 [v0] h fun v1 h2 =>
  obind (pNot v1) fun v2 =>
  guardC v2 false h2 (fun k => k (Tr.get .bad q6 fr) h2) fun v3 h4 =>
  guardC v2 false h4 (fun k => obind (pLenS v3) fun v => k v h4) fun v4 h5 =>
  guardC v2 false h5 (fun k => obind (pNeq v4 (.int .i64 (.ofNat 1))) fun v => k v h5) fun v5 h6 =>
  obind (pPick v2 (.bool true) v5) fun v6 =>
  guardC v6 false h6 (fun k => k (Tr.get .bad q0 fr) h6) fun v7 h8 =>
  guardC v6 false h8 (fun k => obind (rLdN 5 (Tr.get .bad q3 fr) h8) fun v => k v h8) fun v8 h9 =>
  guardC v6 false h9 (fun k => call q219 [v8] h9 k) fun v9 h10 =>
  guardC v6 false h10 (fun k => call q236 [v7, v9] h10 k) fun v10 h11 =>
  guardC v6 false h11 (fun k => obind (pNot v10) fun v => k v h11) fun v11 h12 =>
  obind (pPick v6 (.bool true) v11) fun v12 =>
  forceG v12 fun v => Tr.setK .bad v q40 fr fun f40 =>
  k f40 h12)
 (.cond 40 q40 (.seq (.reg fun _ fr h k =>
  obind (rLdN 5 (Tr.get .bad q3 fr) h) fun v0 =>
  obind (wStN 5 (Tr.get .bad q4 fr) v0 h) fun h2 =>
  forceG (.bool true) fun v => Tr.setK .bad v q5 fr fun f5 =>
  k f5 h2)
 .ret)
 .skip)))))
 (.seq (.reg fun _ fr h k =>
  obind (pNilck (Tr.get .bad q0 fr)) fun v0 =>
  obind (pFa 40 v0) fun v1 =>
  obind (rLdN 40 v1 h) fun v2 =>
  obind2 (nAlloc [.int .u32 (.ofNat 0), .int .u32 (.ofNat 0), .int .u32 (.ofNat 0), .int .u32 (.ofNat 0), .int .u32 (.ofNat 0), .int .u32 (.ofNat 0), .int .u32 (.ofNat 0), .int .u32 (.ofNat 0), .int .u32 (.ofNat 0), .int .u32 (.ofNat 0), .int .u32 (.ofNat 0), .int .u32 (.ofNat 0), .int .u32 (.ofNat 0), .int .u32 (.ofNat 0), .int .u32 (.ofNat 0), .int .u32 (.ofNat 0), .int .u32 (.ofNat 0), .int .u32 (.ofNat 0), .int .u32 (.ofNat 0), .int .u32 (.ofNat 0), .int .u32 (.ofNat 0), .int .u32 (.ofNat 0), .int .u32 (.ofNat 0), .int .u32 (.ofNat 0), .int .u32 (.ofNat 0), .int .u32 (.ofNat 0), .int .u32 (.ofNat 0), .int .u32 (.ofNat 0), .int .u32 (.ofNat 0), .int .u32 (.ofNat 0), .int .u32 (.ofNat 0), .int .u32 (.ofNat 0), .int .u32 (.ofNat 0), .int .u32 (.ofNat 0), .int .u32 (.ofNat 0), .int .u32 (.ofNat 0), .int .u32 (.ofNat 0), .int .u32 (.ofNat 0), .int .u32 (.ofNat 0), .int .u32 (.ofNat 0)] h) fun v3 h4 =>
  obind (wStN 40 v3 v2 h4) fun h5 =>
  forceG v3 fun v => Tr.setK .bad v q7 fr fun f7 =>
  k f7 h5)
 (.seq (.reg fun call fr h k =>
  obind (rLdN 5 (Tr.get .bad q3 fr) h) fun v0 =>
  obind2 (nBuildS (rep [.int .i64 (.ofNat 0), .int .i64 (.ofNat 0), .int .i64 (.ofNat 0), .int .i64 (.ofNat 0), .int .u32 (.ofNat 0)] 1) 1 5 none [(0, 5, v0)] h) fun v1 h2 =>
  call q237 [(Tr.get .bad q7 fr), v1] h2 fun _ h3 =>
  k fr h3)
 (.seq (.reg fun _ fr h k =>
  obind (pFa 1 (Tr.get .bad q3 fr)) fun v0 =>
  obind (rLd1 v0 h) fun v1 =>
  obind (pFa 1 (Tr.get .bad q3 fr)) fun v2 =>
  obind (rLd1 v2 h) fun v3 =>
  obind (pIdxA 40 1 (Tr.get .bad q7 fr) v3) fun v4 =>
  obind (rLd1 v4 h) fun v5 =>
  obind (pBuild [.int .i64 (.ofNat 0), .int .i64 (.ofNat 0), .int .i64 (.ofNat 0), .int .i64 (.ofNat 0), .int .u32 (.ofNat 0)] [(0, 1, (.int .i64 (.ofNat 1))), (1, 1, v1), (4, 1, v5)]) fun v6 =>
  obind (wStN 5 (Tr.get .bad q4 fr) v6 h) fun h8 =>
  forceG (.bool true) fun v => Tr.setK .bad v q5 fr fun f5 =>
  k f5 h8)
 .ret)))))), resF [.cN 4 5, .t 5]⟩
theorem g221_ok : Comp Tryz.prog Tryz.f221 2 [3, 4, 5, 6, 7, 10, 40] g221 := ⟨_, [.cN 4 5, .t 5], rfl, by kernel_rfl, by decide, by kernel_rfl, by kernel_rfl, rfl, rfl⟩
/-- (*pianola/opt.facts).done -/
def g222 : GFunc := ⟨2, (.seq (.reg fun _ fr h k =>
  obind2 (nBox (Tr.get .bad q1 fr) h) fun v0 h1 =>
  forceG v0 fun v => Tr.setK .bad v q3 fr fun f3 =>
  k f3 h1)
 (.seq (.reg fun call fr h k =>
  obind (rLdN 5 (Tr.get .bad q3 fr) h) fun v0 =>
  call q219 [v0] h fun v1 h2 =>
  call q236 [(Tr.get .bad q0 fr), v1] h2 fun v2 h3 =>
  forceG v2 fun v => Tr.setK .bad v q4 fr fun f4 =>
  k f4 h3)
 (.seq (.seq (.reg fun _ fr h k =>
  forceG (Tr.get .bad q4 fr) fun v => Tr.setK .bad v q11 fr fun f11 =>
  k f11 h)
 (.cond 11 q11 (.reg fun call fr h k =>
  obind (pNilck (Tr.get .bad q0 fr)) fun v0 =>
  obind (pFa 40 v0) fun v1 =>
  obind (rLdN 5 (Tr.get .bad q3 fr) h) fun v2 =>
  obind2 (nBuildS (rep [.int .i64 (.ofNat 0), .int .i64 (.ofNat 0), .int .i64 (.ofNat 0), .int .i64 (.ofNat 0), .int .u32 (.ofNat 0)] 1) 1 5 none [(0, 5, v2)] h) fun v3 h4 =>
  call q237 [v1, v3] h4 fun _ h5 =>
  k fr h5)
 .skip))
 (.seq (.reg fun call fr h k =>
  obind (rLdN 5 (Tr.get .bad q3 fr) h) fun v0 =>
  call q215 [v0] h fun v1 h2 =>
  obind (pLenS v1) fun v2 =>
  forceG v1 fun v => Tr.setK .bad v q19 fr fun f19 =>
  forceG v2 fun v => Tr.setK .bad v q20 f19 fun f20 =>
  forceG (.int .i64 (.ofNat 0)) fun v => Tr.setK .bad v q21 f20 fun f21 =>
  k f21 h2)
 (.block 0 (.loop (.seq (.reg fun _ fr h k =>
  obind (pLss (Tr.get .bad q21 fr) (Tr.get .bad q20 fr)) fun v0 =>
  forceG v0 fun v => Tr.setK .bad v q22 fr fun f22 =>
  k f22 h)
 (.seq (.cond 22 q22 .skip
 (.exit 0))
 (.seq (.block 1 (.seq (.reg fun _ fr h k =>
  obind (pIdxS 1 (Tr.get .bad q19 fr) (Tr.get .bad q21 fr)) fun v0 =>
  obind (rLd1 v0 h) fun v1 =>
  forceG v1 fun v => Tr.setK .bad v q6 fr fun f6 =>
  k f6 h)
 (.reg fun _ fr h k =>
  obind (pNilck (Tr.get .bad q0 fr)) fun v0 =>
  obind (pFa 0 v0) fun v1 =>
  obind (pIdxA 40 1 v1 (Tr.get .bad q6 fr)) fun v2 =>
  obind (wSt1 v2 (Tr.get .bad q4 fr) h) fun h4 =>
  k fr h4)))
 (.reg fun _ fr h k =>
  obind (pAdd (Tr.get .bad q21 fr) (.int .i64 (.ofNat 1))) fun v0 =>
  forceG v0 fun v => Tr.setK .bad v q21 fr fun f21 =>
  k f21 h)))))))))), resF []⟩
theorem g222_ok : Comp Tryz.prog Tryz.f222 2 [3, 4, 6, 11, 19, 20, 21, 22] g222 := ⟨_, [], rfl, by kernel_rfl, by decide, by kernel_rfl, by kernel_rfl, rfl, rfl⟩
end
end Go.Ev
