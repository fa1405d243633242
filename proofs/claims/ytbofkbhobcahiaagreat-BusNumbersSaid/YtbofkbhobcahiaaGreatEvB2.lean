/- Ghost code of the Go functions, printed by a program of this session (genfiles.py). -/
import Derived.Test.YtbofkbhobcahiaaGreatEvComp
import Derived.Test.YtbofkbhobcahiaaGreatProg
namespace Go.Ev
open Go.Proofs
set_option maxRecDepth 100000
noncomputable section
/-- (*pianola/uart.Uart).Read -/
def g80 : GFunc := ⟨2, (.seq (.reg fun _ fr h k =>
  forceG (.int .u32 (.ofNat 0)) fun v => Tr.setK .bad v q4 fr fun f4 =>
  forceG (.bool false) fun v => Tr.setK .bad v q5 f4 fun f5 =>
  k f5 h)
 (.seq (.seq (.reg fun _ fr h k =>
  forceG (Tr.get .bad q1 fr) fun v => Tr.setK .bad v q8 fr fun f8 =>
  k f8 h)
 (.block 0 (.seq (.reg fun _ fr h k =>
  obind (pEql (Tr.get .bad q8 fr) (.int .u32 (.ofNat 0))) fun v0 =>
  forceG v0 fun v => Tr.setK .bad v q9 fr fun f9 =>
  k f9 h)
 (.cond 9 q9 (.seq (.seq (.reg fun call fr h k =>
  obind (pNilck (Tr.get .bad q0 fr)) fun v0 =>
  obind (pFa 2 v0) fun v1 =>
  obind (rLd1 v1 h) fun v2 =>
  call q132 [v2] h fun v3 h4 =>
  obind (pExt 0 v3) fun v4 =>
  obind (pExt 1 v3) fun v5 =>
  forceG v4 fun v => Tr.setK .bad v q6 fr fun f6 =>
  forceG v5 fun v => Tr.setK .bad v q7 f6 fun f7 =>
  k f7 h4)
 (.seq (.reg fun _ fr h k =>
  forceG (Tr.get .bad q7 fr) fun v => Tr.setK .bad v q19 fr fun f19 =>
  k f19 h)
 (.cond 19 q19 (.seq (.reg fun _ fr h k =>
  obind (pConv .u32 (Tr.get .bad q6 fr)) fun v0 =>
  forceG v0 fun v => Tr.setK .bad v q4 fr fun f4 =>
  forceG (.bool true) fun v => Tr.setK .bad v q5 f4 fun f5 =>
  k f5 h)
 .ret)
 .skip)))
 (.seq (.reg fun _ fr h k =>
  forceG (.int .u32 (.ofNat 256)) fun v => Tr.setK .bad v q4 fr fun f4 =>
  forceG (.bool true) fun v => Tr.setK .bad v q5 f4 fun f5 =>
  k f5 h)
 .ret))
 (.seq (.reg fun _ fr h k =>
  obind (pEql (Tr.get .bad q8 fr) (.int .u32 (.ofNat 4))) fun v0 =>
  forceG v0 fun v => Tr.setK .bad v q22 fr fun f22 =>
  k f22 h)
 (.cond 22 q22 (.seq (.reg fun call fr h k =>
  obind (pNilck (Tr.get .bad q0 fr)) fun v0 =>
  obind (pFa 2 v0) fun v1 =>
  obind (rLd1 v1 h) fun v2 =>
  obind (rLenC v2 h) fun v3 =>
  obind (pGtr v3 (.int .i64 (.ofNat 0))) fun v4 =>
  call q133 [v4, (.int .u32 (.ofNat 1))] h fun v5 h6 =>
  obind (pNilck (Tr.get .bad q0 fr)) fun v6 =>
  obind (pFa 3 v6) fun v7 =>
  obind (rLd1 v7 h6) fun v8 =>
  obind (rLenC v8 h6) fun v9 =>
  obind (pEql v9 (.int .i64 (.ofNat 16))) fun v10 =>
  call q133 [v10, (.int .u32 (.ofNat 2))] h6 fun v11 h12 =>
  obind (pOr v5 v11) fun v12 =>
  obind (pNilck (Tr.get .bad q0 fr)) fun v13 =>
  obind (pFa 4 v13) fun v14 =>
  obind (rLd1 v14 h12) fun v15 =>
  call q133 [v15, (.int .u32 (.ofNat 4))] h12 fun v16 h17 =>
  obind (pOr v12 v16) fun v17 =>
  obind (pNilck (Tr.get .bad q0 fr)) fun v18 =>
  obind (pFa 3 v18) fun v19 =>
  obind (rLd1 v19 h17) fun v20 =>
  obind (rLenC v20 h17) fun v21 =>
  obind (pEql v21 (.int .i64 (.ofNat 0))) fun v22 =>
  call q133 [v22, (.int .u32 (.ofNat 8))] h17 fun v23 h24 =>
  obind (pOr v17 v23) fun v24 =>
  chk v8 (rLd1 v7 h) <|
  chk v15 (rLd1 v14 h) <|
  chk v15 (rLd1 v14 h6) <|
  chk v20 (rLd1 v19 h) <|
  chk v20 (rLd1 v19 h6) <|
  chk v20 (rLd1 v19 h12) <|
  forceG v24 fun v => Tr.setK .bad v q4 fr fun f4 =>
  forceG (.bool true) fun v => Tr.setK .bad v q5 f4 fun f5 =>
  k f5 h24)
 .ret)
 (.seq (.reg fun _ fr h k =>
  obind (pEql (Tr.get .bad q8 fr) (.int .u32 (.ofNat 8))) fun v0 =>
  forceG v0 fun v => Tr.setK .bad v q53 fr fun f53 =>
  k f53 h)
 (.cond 53 q53 (.seq (.reg fun _ fr h k =>
  obind (pNilck (Tr.get .bad q0 fr)) fun v0 =>
  obind (pFa 5 v0) fun v1 =>
  obind (rLd1 v1 h) fun v2 =>
  forceG v2 fun v => Tr.setK .bad v q4 fr fun f4 =>
  forceG (.bool true) fun v => Tr.setK .bad v q5 f4 fun f5 =>
  k f5 h)
 .ret)
 .skip))))))))
 (.seq (.reg fun _ fr h k =>
  forceG (.int .u32 (.ofNat 0)) fun v => Tr.setK .bad v q4 fr fun f4 =>
  forceG (.bool false) fun v => Tr.setK .bad v q5 f4 fun f5 =>
  k f5 h)
 .ret))), resF [.t 4, .t 5]⟩
theorem g80_ok : Comp Tryz.prog Tryz.f80 2 [4, 5, 6, 7, 8, 9, 19, 22, 53] g80 := ⟨_, [.t 4, .t 5], rfl, by kernel_rfl, by decide, by kernel_rfl, by kernel_rfl, rfl, rfl⟩
/-- (*pianola/dma.Dma).Read -/
def g81 : GFunc := ⟨2, (.seq (.reg fun _ fr h k =>
  forceG (.int .u32 (.ofNat 0)) fun v => Tr.setK .bad v q4 fr fun f4 =>
  forceG (.bool false) fun v => Tr.setK .bad v q5 f4 fun f5 =>
  k f5 h)
 (.seq (.seq (.reg fun _ fr h k =>
  forceG (Tr.get .bad q1 fr) fun v => Tr.setK .bad v q6 fr fun f6 =>
  k f6 h)
 (.block 0 (.seq (.reg fun _ fr h k =>
  obind (pEql (Tr.get .bad q6 fr) (.int .u32 (.ofNat 0))) fun v0 =>
  forceG v0 fun v => Tr.setK .bad v q7 fr fun f7 =>
  k f7 h)
 (.cond 7 q7 (.seq (.reg fun _ fr h k =>
  obind (pNilck (Tr.get .bad q0 fr)) fun v0 =>
  obind (pFa 3 v0) fun v1 =>
  obind (rLd1 v1 h) fun v2 =>
  forceG v2 fun v => Tr.setK .bad v q4 fr fun f4 =>
  forceG (.bool true) fun v => Tr.setK .bad v q5 f4 fun f5 =>
  k f5 h)
 .ret)
 (.seq (.reg fun _ fr h k =>
  obind (pEql (Tr.get .bad q6 fr) (.int .u32 (.ofNat 4))) fun v0 =>
  forceG v0 fun v => Tr.setK .bad v q13 fr fun f13 =>
  k f13 h)
 (.cond 13 q13 (.seq (.reg fun _ fr h k =>
  obind (pNilck (Tr.get .bad q0 fr)) fun v0 =>
  obind (pFa 4 v0) fun v1 =>
  obind (rLd1 v1 h) fun v2 =>
  forceG v2 fun v => Tr.setK .bad v q4 fr fun f4 =>
  forceG (.bool true) fun v => Tr.setK .bad v q5 f4 fun f5 =>
  k f5 h)
 .ret)
 (.seq (.reg fun _ fr h k =>
  obind (pEql (Tr.get .bad q6 fr) (.int .u32 (.ofNat 8))) fun v0 =>
  forceG v0 fun v => Tr.setK .bad v q19 fr fun f19 =>
  k f19 h)
 (.cond 19 q19 (.seq (.reg fun _ fr h k =>
  obind (pNilck (Tr.get .bad q0 fr)) fun v0 =>
  obind (pFa 5 v0) fun v1 =>
  obind (rLd1 v1 h) fun v2 =>
  forceG v2 fun v => Tr.setK .bad v q4 fr fun f4 =>
  forceG (.bool true) fun v => Tr.setK .bad v q5 f4 fun f5 =>
  k f5 h)
 .ret)
 (.seq (.reg fun _ fr h k =>
  obind (pEql (Tr.get .bad q6 fr) (.int .u32 (.ofNat 12))) fun v0 =>
  forceG v0 fun v => Tr.setK .bad v q25 fr fun f25 =>
  k f25 h)
 (.cond 25 q25 (.seq (.reg fun _ fr h k =>
  forceG (.int .u32 (.ofNat 0)) fun v => Tr.setK .bad v q4 fr fun f4 =>
  forceG (.bool true) fun v => Tr.setK .bad v q5 f4 fun f5 =>
  k f5 h)
 .ret)
 (.seq (.reg fun _ fr h k =>
  obind (pEql (Tr.get .bad q6 fr) (.int .u32 (.ofNat 16))) fun v0 =>
  forceG v0 fun v => Tr.setK .bad v q27 fr fun f27 =>
  k f27 h)
 (.cond 27 q27 (.seq (.reg fun _ fr h k =>
  obind (pNilck (Tr.get .bad q0 fr)) fun v0 =>
  obind (pFa 6 v0) fun v1 =>
  obind (rLd1 v1 h) fun v2 =>
  forceG v2 fun v => Tr.setK .bad v q4 fr fun f4 =>
  forceG (.bool true) fun v => Tr.setK .bad v q5 f4 fun f5 =>
  k f5 h)
 .ret)
 .skip))))))))))))
 (.seq (.reg fun _ fr h k =>
  forceG (.int .u32 (.ofNat 0)) fun v => Tr.setK .bad v q4 fr fun f4 =>
  forceG (.bool false) fun v => Tr.setK .bad v q5 f4 fun f5 =>
  k f5 h)
 .ret))), resF [.t 4, .t 5]⟩
theorem g81_ok : Comp Tryz.prog Tryz.f81 2 [4, 5, 6, 7, 13, 19, 25, 27] g81 := ⟨_, [.t 4, .t 5], rfl, by kernel_rfl, by decide, by kernel_rfl, by kernel_rfl, rfl, rfl⟩
/-- (*pianola/disk.Disk).Read -/
def g82 : GFunc := ⟨2, (.seq (.reg fun _ fr h k =>
  forceG (.int .u32 (.ofNat 0)) fun v => Tr.setK .bad v q4 fr fun f4 =>
  forceG (.bool false) fun v => Tr.setK .bad v q5 f4 fun f5 =>
  k f5 h)
 (.seq (.seq (.reg fun _ fr h k =>
  forceG (Tr.get .bad q1 fr) fun v => Tr.setK .bad v q6 fr fun f6 =>
  k f6 h)
 (.block 0 (.seq (.reg fun _ fr h k =>
  obind (pEql (Tr.get .bad q6 fr) (.int .u32 (.ofNat 0))) fun v0 =>
  forceG v0 fun v => Tr.setK .bad v q7 fr fun f7 =>
  k f7 h)
 (.cond 7 q7 (.seq (.reg fun _ fr h k =>
  obind (pNilck (Tr.get .bad q0 fr)) fun v0 =>
  obind (pFa 4 v0) fun v1 =>
  obind (rLd1 v1 h) fun v2 =>
  forceG v2 fun v => Tr.setK .bad v q4 fr fun f4 =>
  forceG (.bool true) fun v => Tr.setK .bad v q5 f4 fun f5 =>
  k f5 h)
 .ret)
 (.seq (.reg fun _ fr h k =>
  obind (pEql (Tr.get .bad q6 fr) (.int .u32 (.ofNat 4))) fun v0 =>
  forceG v0 fun v => Tr.setK .bad v q13 fr fun f13 =>
  k f13 h)
 (.cond 13 q13 (.seq (.reg fun _ fr h k =>
  obind (pNilck (Tr.get .bad q0 fr)) fun v0 =>
  obind (pFa 5 v0) fun v1 =>
  obind (rLd1 v1 h) fun v2 =>
  forceG v2 fun v => Tr.setK .bad v q4 fr fun f4 =>
  forceG (.bool true) fun v => Tr.setK .bad v q5 f4 fun f5 =>
  k f5 h)
 .ret)
 (.seq (.reg fun _ fr h k =>
  obind (pEql (Tr.get .bad q6 fr) (.int .u32 (.ofNat 8))) fun v0 =>
  forceG v0 fun v => Tr.setK .bad v q19 fr fun f19 =>
  k f19 h)
 (.cond 19 q19 (.seq (.reg fun _ fr h k =>
  obind (pNilck (Tr.get .bad q0 fr)) fun v0 =>
  obind (pFa 6 v0) fun v1 =>
  obind (rLd1 v1 h) fun v2 =>
  forceG v2 fun v => Tr.setK .bad v q4 fr fun f4 =>
  forceG (.bool true) fun v => Tr.setK .bad v q5 f4 fun f5 =>
  k f5 h)
 .ret)
 (.seq (.reg fun _ fr h k =>
  obind (pEql (Tr.get .bad q6 fr) (.int .u32 (.ofNat 12))) fun v0 =>
  forceG v0 fun v => Tr.setK .bad v q25 fr fun f25 =>
  k f25 h)
 (.cond 25 q25 (.seq (.reg fun _ fr h k =>
  obind (pNilck (Tr.get .bad q0 fr)) fun v0 =>
  obind (pFa 7 v0) fun v1 =>
  obind (rLd1 v1 h) fun v2 =>
  forceG v2 fun v => Tr.setK .bad v q4 fr fun f4 =>
  forceG (.bool true) fun v => Tr.setK .bad v q5 f4 fun f5 =>
  k f5 h)
 .ret)
 .skip))))))))))
 (.seq (.reg fun _ fr h k =>
  forceG (.int .u32 (.ofNat 0)) fun v => Tr.setK .bad v q4 fr fun f4 =>
  forceG (.bool false) fun v => Tr.setK .bad v q5 f4 fun f5 =>
  k f5 h)
 .ret))), resF [.t 4, .t 5]⟩
theorem g82_ok : Comp Tryz.prog Tryz.f82 2 [4, 5, 6, 7, 13, 19, 25] g82 := ⟨_, [.t 4, .t 5], rfl, by kernel_rfl, by decide, by kernel_rfl, by kernel_rfl, rfl, rfl⟩
/-- (*pianola/lines.Lines).Set -/
def g83 : GFunc := ⟨3, (.seq (.seq (.reg fun _ fr h k =>
  obind (pLss (Tr.get .bad q1 fr) (.int .i64 (.ofNat 1))) fun v0 =>
  guardC v0 false h (fun k => k (Tr.get .bad q1 fr) h) fun v1 h2 =>
  guardC v0 false h2 (fun k => obind (pGtr v1 (.int .i64 (.ofNat 5))) fun v => k v h2) fun v2 h3 =>
  obind (pPick v0 (.bool true) v2) fun v3 =>
  forceG v3 fun v => Tr.setK .bad v q11 fr fun f11 =>
  k f11 h3)
 (.cond 11 q11 .ret
 .skip))
 (.seq (.reg fun _ fr h k =>
  obind (pNilck (Tr.get .bad q0 fr)) fun v0 =>
  obind (pFa 0 v0) fun v1 =>
  obind (rLd1 v1 h) fun v2 =>
  obind (pShl (.int .u32 (.ofNat 1)) (Tr.get .bad q1 fr)) fun v3 =>
  obind (pAndNot v2 v3) fun v4 =>
  obind (pNilck (Tr.get .bad q0 fr)) fun v5 =>
  obind (pFa 0 v5) fun v6 =>
  obind (wSt1 v6 v4 h) fun h8 =>
  k fr h8)
 (.seq (.reg fun _ fr h k =>
  forceG (Tr.get .bad q2 fr) fun v => Tr.setK .bad v q21 fr fun f21 =>
  k f21 h)
 (.cond 21 q21 (.reg fun _ fr h k =>
  obind (pNilck (Tr.get .bad q0 fr)) fun v0 =>
  obind (pFa 0 v0) fun v1 =>
  obind (rLd1 v1 h) fun v2 =>
  obind (pShl (.int .u32 (.ofNat 1)) (Tr.get .bad q1 fr)) fun v3 =>
  obind (pOr v2 v3) fun v4 =>
  obind (pNilck (Tr.get .bad q0 fr)) fun v5 =>
  obind (pFa 0 v5) fun v6 =>
  obind (wSt1 v6 v4 h) fun h8 =>
  k fr h8)
 .skip)))), resF []⟩
theorem g83_ok : Comp Tryz.prog Tryz.f83 3 [11, 21] g83 := ⟨_, [], rfl, by kernel_rfl, by decide, by kernel_rfl, by kernel_rfl, rfl, rfl⟩
/-- (*pianola/bus.Bus).line -/
def g84 : GFunc := ⟨2, (.seq (.reg fun _ fr h k =>
  forceG (.bool false) fun v => Tr.setK .bad v q4 fr fun f4 =>
  k f4 h)
 (.seq (.seq (.reg fun _ fr h k =>
  forceG (Tr.get .bad q1 fr) fun v => Tr.setK .bad v q5 fr fun f5 =>
  k f5 h)
 (.block 0 (.seq (.reg fun _ fr h k =>
  obind (pEql (Tr.get .bad q5 fr) (.int .i64 (.ofNat 1))) fun v0 =>
  forceG v0 fun v => Tr.setK .bad v q6 fr fun f6 =>
  k f6 h)
 (.cond 6 q6 (.seq (.reg fun call fr h k =>
  obind (pNilck (Tr.get .bad q0 fr)) fun v0 =>
  obind (pFa 3 v0) fun v1 =>
  obind (rLd1 v1 h) fun v2 =>
  call q134 [v2] h fun v3 h4 =>
  forceG v3 fun v => Tr.setK .bad v q4 fr fun f4 =>
  k f4 h4)
 .ret)
 (.seq (.reg fun _ fr h k =>
  obind (pEql (Tr.get .bad q5 fr) (.int .i64 (.ofNat 2))) fun v0 =>
  forceG v0 fun v => Tr.setK .bad v q13 fr fun f13 =>
  k f13 h)
 (.cond 13 q13 (.seq (.reg fun call fr h k =>
  obind (pNilck (Tr.get .bad q0 fr)) fun v0 =>
  obind (pFa 4 v0) fun v1 =>
  obind (rLd1 v1 h) fun v2 =>
  call q134 [v2] h fun v3 h4 =>
  forceG v3 fun v => Tr.setK .bad v q4 fr fun f4 =>
  k f4 h4)
 .ret)
 (.seq (.reg fun _ fr h k =>
  obind (pEql (Tr.get .bad q5 fr) (.int .i64 (.ofNat 3))) fun v0 =>
  forceG v0 fun v => Tr.setK .bad v q20 fr fun f20 =>
  k f20 h)
 (.cond 20 q20 (.seq (.reg fun call fr h k =>
  obind (pNilck (Tr.get .bad q0 fr)) fun v0 =>
  obind (pFa 5 v0) fun v1 =>
  obind (rLd1 v1 h) fun v2 =>
  call q135 [v2] h fun v3 h4 =>
  forceG v3 fun v => Tr.setK .bad v q4 fr fun f4 =>
  k f4 h4)
 .ret)
 (.seq (.reg fun _ fr h k =>
  obind (pEql (Tr.get .bad q5 fr) (.int .i64 (.ofNat 4))) fun v0 =>
  forceG v0 fun v => Tr.setK .bad v q27 fr fun f27 =>
  k f27 h)
 (.cond 27 q27 (.seq (.reg fun call fr h k =>
  obind (pNilck (Tr.get .bad q0 fr)) fun v0 =>
  obind (pFa 6 v0) fun v1 =>
  obind (rLd1 v1 h) fun v2 =>
  call q136 [v2] h fun v3 h4 =>
  forceG v3 fun v => Tr.setK .bad v q4 fr fun f4 =>
  k f4 h4)
 .ret)
 .skip))))))))))
 (.seq (.reg fun call fr h k =>
  obind (pNilck (Tr.get .bad q0 fr)) fun v0 =>
  obind (pFa 7 v0) fun v1 =>
  obind (rLd1 v1 h) fun v2 =>
  call q137 [v2] h fun v3 h4 =>
  forceG v3 fun v => Tr.setK .bad v q4 fr fun f4 =>
  k f4 h4)
 .ret))), resF [.t 4]⟩
theorem g84_ok : Comp Tryz.prog Tryz.f84 2 [4, 5, 6, 13, 20, 27] g84 := ⟨_, [.t 4], rfl, by kernel_rfl, by decide, by kernel_rfl, by kernel_rfl, rfl, rfl⟩
/-- (*pianola/pianolaref2.Ram).In -/
def g85 : GFunc := ⟨3, (.seq (.reg fun _ fr h k =>
  forceG (.bool false) fun v => Tr.setK .bad v q6 fr fun f6 =>
  k f6 h)
 (.seq (.reg fun _ fr h k =>
  obind (pGeq (Tr.get .bad q2 fr) (.int .i64 (.ofNat 0))) fun v0 =>
  guardC v0 true h (fun k => k (Tr.get .bad q1 fr) h) fun v1 h2 =>
  guardC v0 true h2 (fun k => obind (pConv .u64 v1) fun v => k v h2) fun v2 h3 =>
  guardC v0 true h3 (fun k => k (Tr.get .bad q2 fr) h3) fun v3 h4 =>
  guardC v0 true h4 (fun k => obind (pConv .u64 v3) fun v => k v h4) fun v4 h5 =>
  guardC v0 true h5 (fun k => obind (pAdd v2 v4) fun v => k v h5) fun v5 h6 =>
  guardC v0 true h6 (fun k => k (Tr.get .bad q0 fr) h6) fun v6 h7 =>
  guardC v0 true h7 (fun k => obind (pNilck v6) fun v => k v h7) fun v7 h8 =>
  guardC v0 true h8 (fun k => obind (pFa 0 v7) fun v => k v h8) fun v8 h9 =>
  guardC v0 true h9 (fun k => obind (rLd1 v8 h9) fun v => k v h9) fun v9 h10 =>
  guardC v0 true h10 (fun k => obind (pLenS v9) fun v => k v h10) fun v10 h11 =>
  guardC v0 true h11 (fun k => obind (pConv .u64 v10) fun v => k v h11) fun v11 h12 =>
  guardC v0 true h12 (fun k => obind (pLeq v5 v11) fun v => k v h12) fun v12 h13 =>
  obind (pPick v0 v12 (.bool false)) fun v13 =>
  forceG v13 fun v => Tr.setK .bad v q6 fr fun f6 =>
  k f6 h13)
 .ret)), resF [.t 6]⟩
theorem g85_ok : Comp Tryz.prog Tryz.f85 3 [6] g85 := ⟨_, [.t 6], rfl, by kernel_rfl, by decide, by kernel_rfl, by kernel_rfl, rfl, rfl⟩
/-- pianola/pianolaref15.bit -/
def g86 : GFunc := ⟨2, (.seq (.reg fun _ fr h k =>
  forceG (.int .u32 (.ofNat 0)) fun v => Tr.setK .bad v q4 fr fun f4 =>
  k f4 h)
 (.seq (.seq (.reg fun _ fr h k =>
  forceG (Tr.get .bad q0 fr) fun v => Tr.setK .bad v q5 fr fun f5 =>
  k f5 h)
 (.cond 5 q5 (.seq (.reg fun _ fr h k =>
  obind (pShl (.int .u32 (.ofNat 1)) (Tr.get .bad q1 fr)) fun v0 =>
  forceG v0 fun v => Tr.setK .bad v q4 fr fun f4 =>
  k f4 h)
 .ret)
 .skip))
 (.seq (.reg fun _ fr h k =>
  forceG (.int .u32 (.ofNat 0)) fun v => Tr.setK .bad v q4 fr fun f4 =>
  k f4 h)
 .ret))), resF [.t 4]⟩
theorem g86_ok : Comp Tryz.prog Tryz.f86 2 [4, 5] g86 := ⟨_, [.t 4], rfl, by kernel_rfl, by decide, by kernel_rfl, by kernel_rfl, rfl, rfl⟩
/-- (*pianola/pianolaref15.Bus).Line -/
def g87 : GFunc := ⟨2, (.seq (.reg fun _ fr h k =>
  forceG (.bool false) fun v => Tr.setK .bad v q4 fr fun f4 =>
  k f4 h)
 (.seq (.seq (.reg fun _ fr h k =>
  forceG (Tr.get .bad q1 fr) fun v => Tr.setK .bad v q5 fr fun f5 =>
  k f5 h)
 (.block 0 (.seq (.seq (.reg fun _ fr h k =>
  obind (pEql (Tr.get .bad q5 fr) (.int .i64 (.ofNat 1))) fun v0 =>
  forceG v0 fun v => Tr.setK .bad v q6 fr fun f6 =>
  k f6 h)
 (.cond 6 q6 .skip
 (.reg fun _ fr h k =>
  obind (pEql (Tr.get .bad q5 fr) (.int .i64 (.ofNat 2))) fun v0 =>
  forceG v0 fun v => Tr.setK .bad v q6 fr fun f6 =>
  k f6 h)))
 (.cond 6 q6 (.seq (.reg fun _ fr h k =>
  obind (pSub (Tr.get .bad q1 fr) (.int .i64 (.ofNat 1))) fun v0 =>
  obind (pNilck (Tr.get .bad q0 fr)) fun v1 =>
  obind (pFa 3 v1) fun v2 =>
  obind (pIdxA 2 3 v2 v0) fun v3 =>
  obind (pFa 2 v3) fun v4 =>
  obind (rLd1 v4 h) fun v5 =>
  obind (pNeq v5 (.int .u32 (.ofNat 0))) fun v6 =>
  forceG v6 fun v => Tr.setK .bad v q4 fr fun f4 =>
  k f4 h)
 .ret)
 (.seq (.reg fun _ fr h k =>
  obind (pEql (Tr.get .bad q5 fr) (.int .i64 (.ofNat 3))) fun v0 =>
  forceG v0 fun v => Tr.setK .bad v q18 fr fun f18 =>
  k f18 h)
 (.cond 18 q18 (.seq (.reg fun _ fr h k =>
  obind (pNilck (Tr.get .bad q0 fr)) fun v0 =>
  obind (pFa 9 v0) fun v1 =>
  obind (pFa 3 v1) fun v2 =>
  obind (rLd1 v2 h) fun v3 =>
  obind (pAnd v3 (.int .u32 (.ofNat 1))) fun v4 =>
  obind (pNeq v4 (.int .u32 (.ofNat 0))) fun v5 =>
  guardC v5 true h (fun k => k (Tr.get .bad q0 fr) h) fun v6 h7 =>
  guardC v5 true h7 (fun k => obind (pNilck v6) fun v => k v h7) fun v7 h8 =>
  guardC v5 true h8 (fun k => obind (pFa 9 v7) fun v => k v h8) fun v8 h9 =>
  guardC v5 true h9 (fun k => obind (pFa 0 v8) fun v => k v h9) fun v9 h10 =>
  guardC v5 true h10 (fun k => obind (rLd1 v9 h10) fun v => k v h10) fun v10 h11 =>
  guardC v5 true h11 (fun k => obind (pLenS v10) fun v => k v h11) fun v11 h12 =>
  guardC v5 true h12 (fun k => obind (pGtr v11 (.int .i64 (.ofNat 0))) fun v => k v h12) fun v12 h13 =>
  obind (pPick v5 v12 (.bool false)) fun v13 =>
  guardC v13 false h13 (fun k => k (Tr.get .bad q0 fr) h13) fun v14 h15 =>
  guardC v13 false h15 (fun k => obind (pNilck v14) fun v => k v h15) fun v15 h16 =>
  guardC v13 false h16 (fun k => obind (pFa 9 v15) fun v => k v h16) fun v16 h17 =>
  guardC v13 false h17 (fun k => obind (pFa 3 v16) fun v => k v h17) fun v17 h18 =>
  guardC v13 false h18 (fun k => obind (rLd1 v17 h18) fun v => k v h18) fun v18 h19 =>
  guardC v13 false h19 (fun k => obind (pAnd v18 (.int .u32 (.ofNat 2))) fun v => k v h19) fun v19 h20 =>
  guardC v13 false h20 (fun k => obind (pNeq v19 (.int .u32 (.ofNat 0))) fun v => k v h20) fun v20 h21 =>
  guardC v13 false h21 (fun k => k v20 h21) fun v21 h22 =>
  guardC v21 true h22 (fun k => k (Tr.get .bad q0 fr) h22) fun v22 h23 =>
  guardC v21 true h23 (fun k => obind (pNilck v22) fun v => k v h23) fun v23 h24 =>
  guardC v21 true h24 (fun k => obind (pFa 9 v23) fun v => k v h24) fun v24 h25 =>
  guardC v21 true h25 (fun k => obind (pFa 1 v24) fun v => k v h25) fun v25 h26 =>
  guardC v21 true h26 (fun k => obind (rLd1 v25 h26) fun v => k v h26) fun v26 h27 =>
  guardC v21 true h27 (fun k => obind (pLenS v26) fun v => k v h27) fun v27 h28 =>
  guardC v21 true h28 (fun k => obind (pEql v27 (.int .i64 (.ofNat 0))) fun v => k v h28) fun v28 h29 =>
  guardC v13 false h29 (fun k => obind (pPick v21 v28 (.bool false)) fun v => k v h29) fun v29 h30 =>
  obind (pPick v13 (.bool true) v29) fun v30 =>
  forceG v30 fun v => Tr.setK .bad v q4 fr fun f4 =>
  k f4 h30)
 .ret)
 (.seq (.reg fun _ fr h k =>
  obind (pEql (Tr.get .bad q5 fr) (.int .i64 (.ofNat 4))) fun v0 =>
  forceG v0 fun v => Tr.setK .bad v q54 fr fun f54 =>
  k f54 h)
 (.cond 54 q54 (.seq (.reg fun _ fr h k =>
  obind (pNilck (Tr.get .bad q0 fr)) fun v0 =>
  obind (pFa 14 v0) fun v1 =>
  obind (pFa 3 v1) fun v2 =>
  obind (rLd1 v2 h) fun v3 =>
  obind (pAnd v3 (.int .u32 (.ofNat 6))) fun v4 =>
  obind (pNeq v4 (.int .u32 (.ofNat 0))) fun v5 =>
  forceG v5 fun v => Tr.setK .bad v q4 fr fun f4 =>
  k f4 h)
 .ret)
 (.seq (.reg fun _ fr h k =>
  obind (pEql (Tr.get .bad q5 fr) (.int .i64 (.ofNat 5))) fun v0 =>
  forceG v0 fun v => Tr.setK .bad v q63 fr fun f63 =>
  k f63 h)
 (.cond 63 q63 (.seq (.reg fun _ fr h k =>
  obind (pNilck (Tr.get .bad q0 fr)) fun v0 =>
  obind (pFa 18 v0) fun v1 =>
  obind (pFa 3 v1) fun v2 =>
  obind (rLd1 v2 h) fun v3 =>
  obind (pAnd v3 (.int .u32 (.ofNat 6))) fun v4 =>
  obind (pNeq v4 (.int .u32 (.ofNat 0))) fun v5 =>
  forceG v5 fun v => Tr.setK .bad v q4 fr fun f4 =>
  k f4 h)
 .ret)
 .skip))))))))))
 (.seq (.reg fun _ fr h k =>
  forceG (.bool false) fun v => Tr.setK .bad v q4 fr fun f4 =>
  k f4 h)
 .ret))), resF [.t 4]⟩
theorem g87_ok : Comp Tryz.prog Tryz.f87 2 [4, 5, 6, 18, 54, 63] g87 := ⟨_, [.t 4], rfl, by kernel_rfl, by decide, by kernel_rfl, by kernel_rfl, rfl, rfl⟩
/-- (*pianola/lines.Lines).Write -/
def g88 : GFunc := ⟨3, (.seq (.reg fun _ fr h k =>
  forceG (.bool false) fun v => Tr.setK .bad v q6 fr fun f6 =>
  k f6 h)
 (.seq (.seq (.reg fun _ fr h k =>
  forceG (Tr.get .bad q1 fr) fun v => Tr.setK .bad v q7 fr fun f7 =>
  k f7 h)
 (.block 0 (.seq (.reg fun _ fr h k =>
  obind (pEql (Tr.get .bad q7 fr) (.int .u32 (.ofNat 4))) fun v0 =>
  forceG v0 fun v => Tr.setK .bad v q8 fr fun f8 =>
  k f8 h)
 (.cond 8 q8 (.reg fun _ fr h k =>
  obind (pAnd (Tr.get .bad q2 fr) (.int .u32 (.ofNat 62))) fun v0 =>
  obind (pNilck (Tr.get .bad q0 fr)) fun v1 =>
  obind (pFa 1 v1) fun v2 =>
  obind (wSt1 v2 v0 h) fun h4 =>
  k fr h4)
 (.seq (.seq (.reg fun _ fr h k =>
  obind (pEql (Tr.get .bad q7 fr) (.int .u32 (.ofNat 0))) fun v0 =>
  forceG v0 fun v => Tr.setK .bad v q15 fr fun f15 =>
  k f15 h)
 (.cond 15 q15 .skip
 (.seq (.reg fun _ fr h k =>
  obind (pEql (Tr.get .bad q7 fr) (.int .u32 (.ofNat 8))) fun v0 =>
  forceG v0 fun v => Tr.setK .bad v q15 fr fun f15 =>
  k f15 h)
 (.cond 15 q15 .skip
 (.reg fun _ fr h k =>
  obind (pEql (Tr.get .bad q7 fr) (.int .u32 (.ofNat 12))) fun v0 =>
  forceG v0 fun v => Tr.setK .bad v q15 fr fun f15 =>
  k f15 h)))))
 (.cond 15 q15 .skip
 (.seq (.reg fun _ fr h k =>
  forceG (.bool false) fun v => Tr.setK .bad v q6 fr fun f6 =>
  k f6 h)
 .ret)))))))
 (.seq (.reg fun _ fr h k =>
  forceG (.bool true) fun v => Tr.setK .bad v q6 fr fun f6 =>
  k f6 h)
 .ret))), resF [.t 6]⟩
theorem g88_ok : Comp Tryz.prog Tryz.f88 3 [6, 7, 8, 15] g88 := ⟨_, [.t 6], rfl, by kernel_rfl, by decide, by kernel_rfl, by kernel_rfl, rfl, rfl⟩
/-- (*pianola/timer.Timer).Write -/
def g89 : GFunc := ⟨4, (.seq (.reg fun _ fr h k =>
  forceG (.bool false) fun v => Tr.setK .bad v q8 fr fun f8 =>
  k f8 h)
 (.seq (.seq (.reg fun _ fr h k =>
  forceG (Tr.get .bad q1 fr) fun v => Tr.setK .bad v q9 fr fun f9 =>
  k f9 h)
 (.block 0 (.seq (.reg fun _ fr h k =>
  obind (pEql (Tr.get .bad q9 fr) (.int .u32 (.ofNat 0))) fun v0 =>
  forceG v0 fun v => Tr.setK .bad v q10 fr fun f10 =>
  k f10 h)
 (.cond 10 q10 (.seq (.reg fun _ fr h k =>
  obind (pAnd (Tr.get .bad q2 fr) (.int .u32 (.ofNat 3))) fun v0 =>
  obind (pNilck (Tr.get .bad q0 fr)) fun v1 =>
  obind (pFa 2 v1) fun v2 =>
  obind (wSt1 v2 v0 h) fun h4 =>
  k fr h4)
 (.seq (.reg fun _ fr h k =>
  obind (pAnd (Tr.get .bad q2 fr) (.int .u32 (.ofNat 1))) fun v0 =>
  obind (pNeq v0 (.int .u32 (.ofNat 0))) fun v1 =>
  forceG v1 fun v => Tr.setK .bad v q19 fr fun f19 =>
  k f19 h)
 (.cond 19 q19 (.reg fun call fr h k =>
  call q138 [(Tr.get .bad q0 fr), (Tr.get .bad q3 fr)] h fun _ h1 =>
  k fr h1)
 (.reg fun call fr h k =>
  obind (pNilck (Tr.get .bad q0 fr)) fun v0 =>
  obind (pFa 1 v0) fun v1 =>
  obind (rLd1 v1 h) fun v2 =>
  obind (pNilck (Tr.get .bad q0 fr)) fun v3 =>
  obind (pFa 0 v3) fun v4 =>
  obind (rLd1 v4 h) fun v5 =>
  call q139 [v2, v5] h fun _ h7 =>
  k fr h7))))
 (.seq (.reg fun _ fr h k =>
  obind (pEql (Tr.get .bad q9 fr) (.int .u32 (.ofNat 4))) fun v0 =>
  forceG v0 fun v => Tr.setK .bad v q32 fr fun f32 =>
  k f32 h)
 (.cond 32 q32 (.reg fun _ fr h k =>
  obind (pNilck (Tr.get .bad q0 fr)) fun v0 =>
  obind (pFa 3 v0) fun v1 =>
  obind (wSt1 v1 (Tr.get .bad q2 fr) h) fun h3 =>
  k fr h3)
 (.seq (.reg fun _ fr h k =>
  obind (pEql (Tr.get .bad q9 fr) (.int .u32 (.ofNat 8))) fun v0 =>
  forceG v0 fun v => Tr.setK .bad v q38 fr fun f38 =>
  k f38 h)
 (.cond 38 q38 (.seq (.reg fun _ fr h k =>
  obind (pAnd (Tr.get .bad q2 fr) (.int .u32 (.ofNat 1))) fun v0 =>
  obind (pNeq v0 (.int .u32 (.ofNat 0))) fun v1 =>
  forceG v1 fun v => Tr.setK .bad v q42 fr fun f42 =>
  k f42 h)
 (.cond 42 q42 (.reg fun _ fr h k =>
  obind (pNilck (Tr.get .bad q0 fr)) fun v0 =>
  obind (pFa 4 v0) fun v1 =>
  obind (wSt1 v1 (.int .u32 (.ofNat 0)) h) fun h3 =>
  k fr h3)
 .skip))
 (.seq (.reg fun _ fr h k =>
  forceG (.bool false) fun v => Tr.setK .bad v q8 fr fun f8 =>
  k f8 h)
 .ret)))))))))
 (.seq (.reg fun _ fr h k =>
  forceG (.bool true) fun v => Tr.setK .bad v q8 fr fun f8 =>
  k f8 h)
 .ret))), resF [.t 8]⟩
theorem g89_ok : Comp Tryz.prog Tryz.f89 4 [8, 9, 10, 19, 32, 38, 42] g89 := ⟨_, [.t 8], rfl, by kernel_rfl, by decide, by kernel_rfl, by kernel_rfl, rfl, rfl⟩
/-- (*pianola/uart.Uart).Write -/
def g90 : GFunc := ⟨4, (.seq (.reg fun _ fr h k =>
  forceG (.bool false) fun v => Tr.setK .bad v q8 fr fun f8 =>
  k f8 h)
 (.seq (.seq (.reg fun _ fr h k =>
  forceG (Tr.get .bad q1 fr) fun v => Tr.setK .bad v q10 fr fun f10 =>
  k f10 h)
 (.block 0 (.seq (.reg fun _ fr h k =>
  obind (pEql (Tr.get .bad q10 fr) (.int .u32 (.ofNat 0))) fun v0 =>
  forceG v0 fun v => Tr.setK .bad v q11 fr fun f11 =>
  k f11 h)
 (.cond 11 q11 (.seq (.reg fun _ fr h k =>
  obind (pNilck (Tr.get .bad q0 fr)) fun v0 =>
  obind (pFa 3 v0) fun v1 =>
  obind (rLd1 v1 h) fun v2 =>
  obind (rLenC v2 h) fun v3 =>
  obind (pEql v3 (.int .i64 (.ofNat 0))) fun v4 =>
  forceG v4 fun v => Tr.setK .bad v q9 fr fun f9 =>
  k f9 h)
 (.seq (.reg fun call fr h k =>
  obind (pNilck (Tr.get .bad q0 fr)) fun v0 =>
  obind (pFa 3 v0) fun v1 =>
  obind (rLd1 v1 h) fun v2 =>
  obind (pConv .u8 (Tr.get .bad q2 fr)) fun v3 =>
  call q140 [v2, v3] h fun v4 h5 =>
  guardC v4 true h5 (fun k => k (Tr.get .bad q9 fr) h5) fun v5 h6 =>
  obind (pPick v4 v5 (.bool false)) fun v6 =>
  forceG v6 fun v => Tr.setK .bad v q28 fr fun f28 =>
  k f28 h6)
 (.cond 28 q28 (.reg fun call fr h k =>
  call q141 [(Tr.get .bad q0 fr), (Tr.get .bad q3 fr)] h fun _ h1 =>
  k fr h1)
 .skip)))
 (.seq (.reg fun _ fr h k =>
  obind (pEql (Tr.get .bad q10 fr) (.int .u32 (.ofNat 4))) fun v0 =>
  forceG v0 fun v => Tr.setK .bad v q32 fr fun f32 =>
  k f32 h)
 (.cond 32 q32 (.reg fun _ fr h k =>
  obind (pNilck (Tr.get .bad q0 fr)) fun v0 =>
  obind (pFa 4 v0) fun v1 =>
  obind (rLd1 v1 h) fun v2 =>
  guardC v2 true h (fun k => k (Tr.get .bad q2 fr) h) fun v3 h4 =>
  guardC v2 true h4 (fun k => obind (pAnd v3 (.int .u32 (.ofNat 4))) fun v => k v h4) fun v4 h5 =>
  guardC v2 true h5 (fun k => obind (pEql v4 (.int .u32 (.ofNat 0))) fun v => k v h5) fun v5 h6 =>
  obind (pPick v2 v5 (.bool false)) fun v6 =>
  obind (pNilck (Tr.get .bad q0 fr)) fun v7 =>
  obind (pFa 4 v7) fun v8 =>
  obind (wSt1 v8 v6 h6) fun h10 =>
  k fr h10)
 (.seq (.reg fun _ fr h k =>
  obind (pEql (Tr.get .bad q10 fr) (.int .u32 (.ofNat 8))) fun v0 =>
  forceG v0 fun v => Tr.setK .bad v q46 fr fun f46 =>
  k f46 h)
 (.cond 46 q46 (.reg fun _ fr h k =>
  obind (pAnd (Tr.get .bad q2 fr) (.int .u32 (.ofNat 3))) fun v0 =>
  obind (pNilck (Tr.get .bad q0 fr)) fun v1 =>
  obind (pFa 5 v1) fun v2 =>
  obind (wSt1 v2 v0 h) fun h4 =>
  k fr h4)
 (.seq (.reg fun _ fr h k =>
  forceG (.bool false) fun v => Tr.setK .bad v q8 fr fun f8 =>
  k f8 h)
 .ret)))))))))
 (.seq (.reg fun _ fr h k =>
  forceG (.bool true) fun v => Tr.setK .bad v q8 fr fun f8 =>
  k f8 h)
 .ret))), resF [.t 8]⟩
theorem g90_ok : Comp Tryz.prog Tryz.f90 4 [8, 9, 10, 11, 28, 32, 46] g90 := ⟨_, [.t 8], rfl, by kernel_rfl, by decide, by kernel_rfl, by kernel_rfl, rfl, rfl⟩
/-- (*pianola/dma.Dma).Write -/
def g91 : GFunc := ⟨4, (.seq (.reg fun _ fr h k =>
  forceG (.bool false) fun v => Tr.setK .bad v q8 fr fun f8 =>
  k f8 h)
 (.seq (.seq (.reg fun _ fr h k =>
  forceG (Tr.get .bad q1 fr) fun v => Tr.setK .bad v q9 fr fun f9 =>
  k f9 h)
 (.block 0 (.seq (.reg fun _ fr h k =>
  obind (pEql (Tr.get .bad q9 fr) (.int .u32 (.ofNat 0))) fun v0 =>
  forceG v0 fun v => Tr.setK .bad v q10 fr fun f10 =>
  k f10 h)
 (.cond 10 q10 (.reg fun _ fr h k =>
  obind (pNilck (Tr.get .bad q0 fr)) fun v0 =>
  obind (pFa 3 v0) fun v1 =>
  obind (wSt1 v1 (Tr.get .bad q2 fr) h) fun h3 =>
  k fr h3)
 (.seq (.reg fun _ fr h k =>
  obind (pEql (Tr.get .bad q9 fr) (.int .u32 (.ofNat 4))) fun v0 =>
  forceG v0 fun v => Tr.setK .bad v q16 fr fun f16 =>
  k f16 h)
 (.cond 16 q16 (.reg fun _ fr h k =>
  obind (pNilck (Tr.get .bad q0 fr)) fun v0 =>
  obind (pFa 4 v0) fun v1 =>
  obind (wSt1 v1 (Tr.get .bad q2 fr) h) fun h3 =>
  k fr h3)
 (.seq (.reg fun _ fr h k =>
  obind (pEql (Tr.get .bad q9 fr) (.int .u32 (.ofNat 8))) fun v0 =>
  forceG v0 fun v => Tr.setK .bad v q22 fr fun f22 =>
  k f22 h)
 (.cond 22 q22 (.reg fun _ fr h k =>
  obind (pNilck (Tr.get .bad q0 fr)) fun v0 =>
  obind (pFa 5 v0) fun v1 =>
  obind (wSt1 v1 (Tr.get .bad q2 fr) h) fun h3 =>
  k fr h3)
 (.seq (.reg fun _ fr h k =>
  obind (pEql (Tr.get .bad q9 fr) (.int .u32 (.ofNat 12))) fun v0 =>
  forceG v0 fun v => Tr.setK .bad v q28 fr fun f28 =>
  k f28 h)
 (.cond 28 q28 (.seq (.reg fun _ fr h k =>
  obind (pAnd (Tr.get .bad q2 fr) (.int .u32 (.ofNat 1))) fun v0 =>
  obind (pNeq v0 (.int .u32 (.ofNat 0))) fun v1 =>
  forceG v1 fun v => Tr.setK .bad v q32 fr fun f32 =>
  k f32 h)
 (.cond 32 q32 (.reg fun call fr h k =>
  call q142 [(Tr.get .bad q0 fr), (Tr.get .bad q3 fr)] h fun _ h1 =>
  k fr h1)
 .skip))
 (.seq (.reg fun _ fr h k =>
  obind (pEql (Tr.get .bad q9 fr) (.int .u32 (.ofNat 16))) fun v0 =>
  forceG v0 fun v => Tr.setK .bad v q36 fr fun f36 =>
  k f36 h)
 (.cond 36 q36 (.reg fun _ fr h k =>
  obind (pNilck (Tr.get .bad q0 fr)) fun v0 =>
  obind (pFa 6 v0) fun v1 =>
  obind (rLd1 v1 h) fun v2 =>
  obind (pAnd (Tr.get .bad q2 fr) (.int .u32 (.ofNat 6))) fun v3 =>
  obind (pAndNot v2 v3) fun v4 =>
  obind (pNilck (Tr.get .bad q0 fr)) fun v5 =>
  obind (pFa 6 v5) fun v6 =>
  obind (wSt1 v6 v4 h) fun h8 =>
  k fr h8)
 (.seq (.reg fun _ fr h k =>
  forceG (.bool false) fun v => Tr.setK .bad v q8 fr fun f8 =>
  k f8 h)
 .ret)))))))))))))
 (.seq (.reg fun _ fr h k =>
  forceG (.bool true) fun v => Tr.setK .bad v q8 fr fun f8 =>
  k f8 h)
 .ret))), resF [.t 8]⟩
theorem g91_ok : Comp Tryz.prog Tryz.f91 4 [8, 9, 10, 16, 22, 28, 32, 36] g91 := ⟨_, [.t 8], rfl, by kernel_rfl, by decide, by kernel_rfl, by kernel_rfl, rfl, rfl⟩
/-- (*pianola/disk.Disk).Write -/
def g92 : GFunc := ⟨4, (.seq (.reg fun _ fr h k =>
  forceG (.bool false) fun v => Tr.setK .bad v q8 fr fun f8 =>
  k f8 h)
 (.seq (.seq (.reg fun _ fr h k =>
  forceG (Tr.get .bad q1 fr) fun v => Tr.setK .bad v q9 fr fun f9 =>
  k f9 h)
 (.block 0 (.seq (.reg fun _ fr h k =>
  obind (pEql (Tr.get .bad q9 fr) (.int .u32 (.ofNat 0))) fun v0 =>
  forceG v0 fun v => Tr.setK .bad v q10 fr fun f10 =>
  k f10 h)
 (.cond 10 q10 (.reg fun _ fr h k =>
  obind (pNilck (Tr.get .bad q0 fr)) fun v0 =>
  obind (pFa 4 v0) fun v1 =>
  obind (wSt1 v1 (Tr.get .bad q2 fr) h) fun h3 =>
  k fr h3)
 (.seq (.reg fun _ fr h k =>
  obind (pEql (Tr.get .bad q9 fr) (.int .u32 (.ofNat 4))) fun v0 =>
  forceG v0 fun v => Tr.setK .bad v q16 fr fun f16 =>
  k f16 h)
 (.cond 16 q16 (.reg fun _ fr h k =>
  obind (pNilck (Tr.get .bad q0 fr)) fun v0 =>
  obind (pFa 5 v0) fun v1 =>
  obind (wSt1 v1 (Tr.get .bad q2 fr) h) fun h3 =>
  k fr h3)
 (.seq (.reg fun _ fr h k =>
  obind (pEql (Tr.get .bad q9 fr) (.int .u32 (.ofNat 8))) fun v0 =>
  forceG v0 fun v => Tr.setK .bad v q22 fr fun f22 =>
  k f22 h)
 (.cond 22 q22 (.reg fun call fr h k =>
  call q143 [(Tr.get .bad q0 fr), (Tr.get .bad q2 fr), (Tr.get .bad q3 fr)] h fun _ h1 =>
  k fr h1)
 (.seq (.reg fun _ fr h k =>
  obind (pEql (Tr.get .bad q9 fr) (.int .u32 (.ofNat 12))) fun v0 =>
  forceG v0 fun v => Tr.setK .bad v q28 fr fun f28 =>
  k f28 h)
 (.cond 28 q28 (.reg fun _ fr h k =>
  obind (pNilck (Tr.get .bad q0 fr)) fun v0 =>
  obind (pFa 7 v0) fun v1 =>
  obind (rLd1 v1 h) fun v2 =>
  obind (pAnd (Tr.get .bad q2 fr) (.int .u32 (.ofNat 6))) fun v3 =>
  obind (pAndNot v2 v3) fun v4 =>
  obind (pNilck (Tr.get .bad q0 fr)) fun v5 =>
  obind (pFa 7 v5) fun v6 =>
  obind (wSt1 v6 v4 h) fun h8 =>
  k fr h8)
 (.seq (.reg fun _ fr h k =>
  forceG (.bool false) fun v => Tr.setK .bad v q8 fr fun f8 =>
  k f8 h)
 .ret)))))))))))
 (.seq (.reg fun _ fr h k =>
  forceG (.bool true) fun v => Tr.setK .bad v q8 fr fun f8 =>
  k f8 h)
 .ret))), resF [.t 8]⟩
theorem g92_ok : Comp Tryz.prog Tryz.f92 4 [8, 9, 10, 16, 22, 28] g92 := ⟨_, [.t 8], rfl, by kernel_rfl, by decide, by kernel_rfl, by kernel_rfl, rfl, rfl⟩
/-- (*pianola/pianolaref2.Ram).touch -/
def g93 : GFunc := ⟨3, (.seq (.reg fun _ fr h k =>
  forceG (.int .i64 (.ofNat 0)) fun v => Tr.setK .bad v q6 fr fun f6 =>
  k f6 h)
 (.block 0 (.loop (.seq (.seq (.reg fun _ fr h k =>
  obind (pLss (Tr.get .bad q6 fr) (Tr.get .bad q2 fr)) fun v0 =>
  forceG v0 fun v => Tr.setK .bad v q10 fr fun f10 =>
  k f10 h)
 (.cond 10 q10 .skip
 (.exit 0)))
 (.seq (.block 1 (.seq (.reg fun _ fr h k =>
  obind (pConv .i64 (Tr.get .bad q1 fr)) fun v0 =>
  obind (pAdd v0 (Tr.get .bad q6 fr)) fun v1 =>
  obind (pQuo v1 (.int .i64 (.ofNat 1024))) fun v2 =>
  forceG v2 fun v => Tr.setK .bad v q7 fr fun f7 =>
  k f7 h)
 (.seq (.reg fun _ fr h k =>
  obind (pNilck (Tr.get .bad q0 fr)) fun v0 =>
  obind (pFa 1 v0) fun v1 =>
  obind (rLd1 v1 h) fun v2 =>
  obind (pIdxS 1 v2 (Tr.get .bad q7 fr)) fun v3 =>
  obind (rLd1 v3 h) fun v4 =>
  forceG v4 fun v => Tr.setK .bad v q24 fr fun f24 =>
  k f24 h)
 (.cond 24 q24 (.reg fun _ fr h k =>
  obind (pNilck (Tr.get .bad q0 fr)) fun v0 =>
  obind (pFa 2 v0) fun v1 =>
  obind (rLd1 v1 h) fun v2 =>
  obind (pIdxS 1 v2 (Tr.get .bad q7 fr)) fun v3 =>
  obind (wSt1 v3 (.bool true) h) fun h5 =>
  k fr h5)
 .skip))))
 (.reg fun _ fr h k =>
  obind (pAdd (Tr.get .bad q6 fr) (.int .i64 (.ofNat 1))) fun v0 =>
  forceG v0 fun v => Tr.setK .bad v q6 fr fun f6 =>
  k f6 h)))))), resF []⟩
theorem g93_ok : Comp Tryz.prog Tryz.f93 3 [6, 7, 10, 24] g93 := ⟨_, [], rfl, by kernel_rfl, by decide, by kernel_rfl, by kernel_rfl, rfl, rfl⟩
/-- (*pianola/pianolaref15.Bus).timer -/
def g94 : GFunc := ⟨5, (.seq (.reg fun _ fr h k =>
  forceG (.bool false) fun v => Tr.setK .bad v q10 fr fun f10 =>
  k f10 h)
 (.seq (.reg fun _ fr h k =>
  obind (pSub (Tr.get .bad q1 fr) (.int .i64 (.ofNat 1))) fun v0 =>
  obind (pNilck (Tr.get .bad q0 fr)) fun v1 =>
  obind (pFa 3 v1) fun v2 =>
  obind (pIdxA 2 3 v2 v0) fun v3 =>
  forceG v3 fun v => Tr.setK .bad v q11 fr fun f11 =>
  k f11 h)
 (.seq (.seq (.reg fun _ fr h k =>
  forceG (Tr.get .bad q2 fr) fun v => Tr.setK .bad v q18 fr fun f18 =>
  k f18 h)
 (.block 0 (.seq (.reg fun _ fr h k =>
  obind (pEql (Tr.get .bad q18 fr) (.int .u32 (.ofNat 0))) fun v0 =>
  forceG v0 fun v => Tr.setK .bad v q19 fr fun f19 =>
  k f19 h)
 (.cond 19 q19 (.seq (.reg fun _ fr h k =>
  obind (pAnd (Tr.get .bad q3 fr) (.int .u32 (.ofNat 3))) fun v0 =>
  obind (pNilck (Tr.get .bad q11 fr)) fun v1 =>
  obind (pFa 0 v1) fun v2 =>
  obind (wSt1 v2 v0 h) fun h4 =>
  k fr h4)
 (.seq (.reg fun _ fr h k =>
  obind (pAnd (Tr.get .bad q3 fr) (.int .u32 (.ofNat 1))) fun v0 =>
  obind (pNeq v0 (.int .u32 (.ofNat 0))) fun v1 =>
  forceG v1 fun v => Tr.setK .bad v q28 fr fun f28 =>
  k f28 h)
 (.cond 28 q28 (.reg fun call fr h k =>
  obind (pNilck (Tr.get .bad q0 fr)) fun v0 =>
  obind (pFa 1 v0) fun v1 =>
  obind (pNilck (Tr.get .bad q11 fr)) fun v2 =>
  obind (pFa 1 v2) fun v3 =>
  obind (rLd1 v3 h) fun v4 =>
  obind (pConv .i64 v4) fun v5 =>
  obind (pMax v5 (.int .i64 (.ofNat 1))) fun v6 =>
  obind (pAdd (Tr.get .bad q4 fr) v6) fun v7 =>
  call q108 [v1, (Tr.get .bad q1 fr), v7] h fun _ h9 =>
  k fr h9)
 (.reg fun call fr h k =>
  obind (pNilck (Tr.get .bad q0 fr)) fun v0 =>
  obind (pFa 1 v0) fun v1 =>
  call q144 [v1, (Tr.get .bad q1 fr)] h fun _ h3 =>
  k fr h3))))
 (.seq (.reg fun _ fr h k =>
  obind (pEql (Tr.get .bad q18 fr) (.int .u32 (.ofNat 1))) fun v0 =>
  forceG v0 fun v => Tr.setK .bad v q47 fr fun f47 =>
  k f47 h)
 (.cond 47 q47 (.reg fun _ fr h k =>
  obind (pNilck (Tr.get .bad q11 fr)) fun v0 =>
  obind (pFa 1 v0) fun v1 =>
  obind (wSt1 v1 (Tr.get .bad q3 fr) h) fun h3 =>
  k fr h3)
 (.seq (.reg fun _ fr h k =>
  obind (pEql (Tr.get .bad q18 fr) (.int .u32 (.ofNat 2))) fun v0 =>
  forceG v0 fun v => Tr.setK .bad v q53 fr fun f53 =>
  k f53 h)
 (.cond 53 q53 (.seq (.reg fun _ fr h k =>
  obind (pAnd (Tr.get .bad q3 fr) (.int .u32 (.ofNat 1))) fun v0 =>
  obind (pNeq v0 (.int .u32 (.ofNat 0))) fun v1 =>
  forceG v1 fun v => Tr.setK .bad v q57 fr fun f57 =>
  k f57 h)
 (.cond 57 q57 (.reg fun _ fr h k =>
  obind (pNilck (Tr.get .bad q11 fr)) fun v0 =>
  obind (pFa 2 v0) fun v1 =>
  obind (wSt1 v1 (.int .u32 (.ofNat 0)) h) fun h3 =>
  k fr h3)
 .skip))
 .skip))))))))
 (.seq (.reg fun _ fr h k =>
  obind (pLss (Tr.get .bad q2 fr) (.int .u32 (.ofNat 3))) fun v0 =>
  forceG v0 fun v => Tr.setK .bad v q10 fr fun f10 =>
  k f10 h)
 .ret)))), resF [.t 10]⟩
theorem g94_ok : Comp Tryz.prog Tryz.f94 5 [10, 11, 18, 19, 28, 47, 53, 57] g94 := ⟨_, [.t 10], rfl, by kernel_rfl, by decide, by kernel_rfl, by kernel_rfl, rfl, rfl⟩
/-- (*pianola/pianolaref15.Bus).uart -/
def g95 : GFunc := ⟨4, (.seq (.reg fun _ fr h k =>
  forceG (.bool false) fun v => Tr.setK .bad v q8 fr fun f8 =>
  k f8 h)
 (.seq (.reg fun _ fr h k =>
  obind (pNilck (Tr.get .bad q0 fr)) fun v0 =>
  obind (pFa 9 v0) fun v1 =>
  forceG v1 fun v => Tr.setK .bad v q9 fr fun f9 =>
  k f9 h)
 (.seq (.seq (.reg fun _ fr h k =>
  forceG (Tr.get .bad q1 fr) fun v => Tr.setK .bad v q13 fr fun f13 =>
  k f13 h)
 (.block 0 (.seq (.reg fun _ fr h k =>
  obind (pEql (Tr.get .bad q13 fr) (.int .u32 (.ofNat 0))) fun v0 =>
  forceG v0 fun v => Tr.setK .bad v q14 fr fun f14 =>
  k f14 h)
 (.cond 14 q14 (.seq (.reg fun _ fr h k =>
  obind (pNilck (Tr.get .bad q9 fr)) fun v0 =>
  obind (pFa 1 v0) fun v1 =>
  obind (rLd1 v1 h) fun v2 =>
  obind (pLenS v2) fun v3 =>
  obind (pLss v3 (.int .i64 (.ofNat 16))) fun v4 =>
  forceG v4 fun v => Tr.setK .bad v q21 fr fun f21 =>
  k f21 h)
 (.cond 21 q21 (.seq (.seq (.reg fun _ fr h k =>
  obind (pNilck (Tr.get .bad q9 fr)) fun v0 =>
  obind (pFa 1 v0) fun v1 =>
  obind (rLd1 v1 h) fun v2 =>
  obind (pLenS v2) fun v3 =>
  obind (pEql v3 (.int .i64 (.ofNat 0))) fun v4 =>
  forceG v4 fun v => Tr.setK .bad v q27 fr fun f27 =>
  k f27 h)
 (.cond 27 q27 (.reg fun call fr h k =>
  obind (pNilck (Tr.get .bad q0 fr)) fun v0 =>
  obind (pFa 1 v0) fun v1 =>
  obind (pAdd (Tr.get .bad q3 fr) (.int .i64 (.ofNat 8))) fun v2 =>
  call q108 [v1, (.int .i64 (.ofNat 3)), v2] h fun _ h4 =>
  k fr h4)
 .skip))
 (.reg fun _ fr h k =>
  obind2 (nBuildS (rep [.int .u8 (.ofNat 0)] 0) 0 1 (some (.u8, 8)) [] h) fun v0 h1 =>
  obind (pNilck (Tr.get .bad q9 fr)) fun v1 =>
  obind (pFa 1 v1) fun v2 =>
  obind (rLd1 v2 h1) fun v3 =>
  obind2 (nAppend 1 1 (some (.u8, 8)) v0 v3 h1) fun v4 h5 =>
  obind (pConv .u8 (Tr.get .bad q2 fr)) fun v5 =>
  obind2 (nBuildS (rep [.int .u8 (.ofNat 0)] 1) 1 1 (some (.u8, 8)) [(0, 1, v5)] h5) fun v6 h7 =>
  obind2 (nAppend 1 1 (some (.u8, 8)) v4 v6 h7) fun v7 h8 =>
  obind (pNilck (Tr.get .bad q9 fr)) fun v8 =>
  obind (pFa 1 v8) fun v9 =>
  obind (wSt1 v9 v7 h8) fun h11 =>
  k fr h11))
 .skip))
 (.seq (.reg fun _ fr h k =>
  obind (pEql (Tr.get .bad q13 fr) (.int .u32 (.ofNat 1))) fun v0 =>
  forceG v0 fun v => Tr.setK .bad v q47 fr fun f47 =>
  k f47 h)
 (.cond 47 q47 (.seq (.reg fun _ fr h k =>
  obind (pAnd (Tr.get .bad q2 fr) (.int .u32 (.ofNat 4))) fun v0 =>
  obind (pNeq v0 (.int .u32 (.ofNat 0))) fun v1 =>
  forceG v1 fun v => Tr.setK .bad v q51 fr fun f51 =>
  k f51 h)
 (.cond 51 q51 (.reg fun _ fr h k =>
  obind (pNilck (Tr.get .bad q9 fr)) fun v0 =>
  obind (pFa 2 v0) fun v1 =>
  obind (wSt1 v1 (.bool false) h) fun h3 =>
  k fr h3)
 .skip))
 (.seq (.reg fun _ fr h k =>
  obind (pEql (Tr.get .bad q13 fr) (.int .u32 (.ofNat 2))) fun v0 =>
  forceG v0 fun v => Tr.setK .bad v q55 fr fun f55 =>
  k f55 h)
 (.cond 55 q55 (.reg fun _ fr h k =>
  obind (pAnd (Tr.get .bad q2 fr) (.int .u32 (.ofNat 3))) fun v0 =>
  obind (pNilck (Tr.get .bad q9 fr)) fun v1 =>
  obind (pFa 3 v1) fun v2 =>
  obind (wSt1 v2 v0 h) fun h4 =>
  k fr h4)
 .skip))))))))
 (.seq (.reg fun _ fr h k =>
  obind (pLss (Tr.get .bad q1 fr) (.int .u32 (.ofNat 3))) fun v0 =>
  forceG v0 fun v => Tr.setK .bad v q8 fr fun f8 =>
  k f8 h)
 .ret)))), resF [.t 8]⟩
theorem g95_ok : Comp Tryz.prog Tryz.f95 4 [8, 9, 13, 14, 21, 27, 47, 51, 55] g95 := ⟨_, [.t 8], rfl, by kernel_rfl, by decide, by kernel_rfl, by kernel_rfl, rfl, rfl⟩
/-- (*pianola/pianolaref15.Bus).dma -/
def g96 : GFunc := ⟨4, (.seq (.reg fun _ fr h k =>
  forceG (.bool false) fun v => Tr.setK .bad v q8 fr fun f8 =>
  k f8 h)
 (.seq (.reg fun _ fr h k =>
  obind (pNilck (Tr.get .bad q0 fr)) fun v0 =>
  obind (pFa 14 v0) fun v1 =>
  forceG v1 fun v => Tr.setK .bad v q9 fr fun f9 =>
  k f9 h)
 (.seq (.seq (.reg fun _ fr h k =>
  forceG (Tr.get .bad q1 fr) fun v => Tr.setK .bad v q13 fr fun f13 =>
  k f13 h)
 (.block 0 (.seq (.reg fun _ fr h k =>
  obind (pEql (Tr.get .bad q13 fr) (.int .u32 (.ofNat 0))) fun v0 =>
  forceG v0 fun v => Tr.setK .bad v q14 fr fun f14 =>
  k f14 h)
 (.cond 14 q14 (.reg fun _ fr h k =>
  obind (pNilck (Tr.get .bad q9 fr)) fun v0 =>
  obind (pFa 0 v0) fun v1 =>
  obind (wSt1 v1 (Tr.get .bad q2 fr) h) fun h3 =>
  k fr h3)
 (.seq (.reg fun _ fr h k =>
  obind (pEql (Tr.get .bad q13 fr) (.int .u32 (.ofNat 1))) fun v0 =>
  forceG v0 fun v => Tr.setK .bad v q20 fr fun f20 =>
  k f20 h)
 (.cond 20 q20 (.reg fun _ fr h k =>
  obind (pNilck (Tr.get .bad q9 fr)) fun v0 =>
  obind (pFa 1 v0) fun v1 =>
  obind (wSt1 v1 (Tr.get .bad q2 fr) h) fun h3 =>
  k fr h3)
 (.seq (.reg fun _ fr h k =>
  obind (pEql (Tr.get .bad q13 fr) (.int .u32 (.ofNat 2))) fun v0 =>
  forceG v0 fun v => Tr.setK .bad v q26 fr fun f26 =>
  k f26 h)
 (.cond 26 q26 (.reg fun _ fr h k =>
  obind (pNilck (Tr.get .bad q9 fr)) fun v0 =>
  obind (pFa 2 v0) fun v1 =>
  obind (wSt1 v1 (Tr.get .bad q2 fr) h) fun h3 =>
  k fr h3)
 (.seq (.reg fun _ fr h k =>
  obind (pEql (Tr.get .bad q13 fr) (.int .u32 (.ofNat 3))) fun v0 =>
  forceG v0 fun v => Tr.setK .bad v q32 fr fun f32 =>
  k f32 h)
 (.cond 32 q32 (.seq (.reg fun _ fr h k =>
  obind (pAnd (Tr.get .bad q2 fr) (.int .u32 (.ofNat 1))) fun v0 =>
  obind (pNeq v0 (.int .u32 (.ofNat 0))) fun v1 =>
  guardC v1 true h (fun k => k (Tr.get .bad q9 fr) h) fun v2 h3 =>
  guardC v1 true h3 (fun k => obind (pNilck v2) fun v => k v h3) fun v3 h4 =>
  guardC v1 true h4 (fun k => obind (pFa 3 v3) fun v => k v h4) fun v4 h5 =>
  guardC v1 true h5 (fun k => obind (rLd1 v4 h5) fun v => k v h5) fun v5 h6 =>
  guardC v1 true h6 (fun k => obind (pAnd v5 (.int .u32 (.ofNat 1))) fun v => k v h6) fun v6 h7 =>
  guardC v1 true h7 (fun k => obind (pEql v6 (.int .u32 (.ofNat 0))) fun v => k v h7) fun v7 h8 =>
  obind (pPick v1 v7 (.bool false)) fun v8 =>
  forceG v8 fun v => Tr.setK .bad v q44 fr fun f44 =>
  k f44 h8)
 (.cond 44 q44 (.seq (.reg fun _ fr h k =>
  obind (pNilck (Tr.get .bad q9 fr)) fun v0 =>
  obind (pFa 3 v0) fun v1 =>
  obind (rLd1 v1 h) fun v2 =>
  obind (pOr v2 (.int .u32 (.ofNat 1))) fun v3 =>
  obind (pNilck (Tr.get .bad q9 fr)) fun v4 =>
  obind (pFa 3 v4) fun v5 =>
  obind (wSt1 v5 v3 h) fun h7 =>
  k fr h7)
 (.reg fun call fr h k =>
  obind (pNilck (Tr.get .bad q0 fr)) fun v0 =>
  obind (pFa 1 v0) fun v1 =>
  obind (pNilck (Tr.get .bad q9 fr)) fun v2 =>
  obind (pFa 2 v2) fun v3 =>
  obind (rLd1 v3 h) fun v4 =>
  obind (pMin v4 (.int .u32 (.ofNat 4096))) fun v5 =>
  obind (pConv .i64 v5) fun v6 =>
  obind (pQuo v6 (.int .i64 (.ofNat 4))) fun v7 =>
  obind (pAdd (Tr.get .bad q3 fr) v7) fun v8 =>
  obind (pAdd v8 (.int .i64 (.ofNat 1))) fun v9 =>
  call q108 [v1, (.int .i64 (.ofNat 4)), v9] h fun _ h11 =>
  k fr h11))
 .skip))
 (.seq (.reg fun _ fr h k =>
  obind (pEql (Tr.get .bad q13 fr) (.int .u32 (.ofNat 4))) fun v0 =>
  forceG v0 fun v => Tr.setK .bad v q67 fr fun f67 =>
  k f67 h)
 (.cond 67 q67 (.reg fun _ fr h k =>
  obind (pNilck (Tr.get .bad q9 fr)) fun v0 =>
  obind (pFa 3 v0) fun v1 =>
  obind (rLd1 v1 h) fun v2 =>
  obind (pAnd (Tr.get .bad q2 fr) (.int .u32 (.ofNat 6))) fun v3 =>
  obind (pAndNot v2 v3) fun v4 =>
  obind (pNilck (Tr.get .bad q9 fr)) fun v5 =>
  obind (pFa 3 v5) fun v6 =>
  obind (wSt1 v6 v4 h) fun h8 =>
  k fr h8)
 .skip))))))))))))
 (.seq (.reg fun _ fr h k =>
  obind (pLss (Tr.get .bad q1 fr) (.int .u32 (.ofNat 5))) fun v0 =>
  forceG v0 fun v => Tr.setK .bad v q8 fr fun f8 =>
  k f8 h)
 .ret)))), resF [.t 8]⟩
theorem g96_ok : Comp Tryz.prog Tryz.f96 4 [8, 9, 13, 14, 20, 26, 32, 44, 67] g96 := ⟨_, [.t 8], rfl, by kernel_rfl, by decide, by kernel_rfl, by kernel_rfl, rfl, rfl⟩
/-- (*pianola/pianolaref15.Bus).disk -/
def g97 : GFunc := ⟨4, (.seq (.reg fun _ fr h k =>
  forceG (.bool false) fun v => Tr.setK .bad v q8 fr fun f8 =>
  k f8 h)
 (.seq (.reg fun _ fr h k =>
  obind (pNilck (Tr.get .bad q0 fr)) fun v0 =>
  obind (pFa 18 v0) fun v1 =>
  forceG v1 fun v => Tr.setK .bad v q9 fr fun f9 =>
  k f9 h)
 (.seq (.seq (.reg fun _ fr h k =>
  forceG (Tr.get .bad q1 fr) fun v => Tr.setK .bad v q13 fr fun f13 =>
  k f13 h)
 (.block 0 (.seq (.reg fun _ fr h k =>
  obind (pEql (Tr.get .bad q13 fr) (.int .u32 (.ofNat 0))) fun v0 =>
  forceG v0 fun v => Tr.setK .bad v q14 fr fun f14 =>
  k f14 h)
 (.cond 14 q14 (.reg fun _ fr h k =>
  obind (pNilck (Tr.get .bad q9 fr)) fun v0 =>
  obind (pFa 0 v0) fun v1 =>
  obind (wSt1 v1 (Tr.get .bad q2 fr) h) fun h3 =>
  k fr h3)
 (.seq (.reg fun _ fr h k =>
  obind (pEql (Tr.get .bad q13 fr) (.int .u32 (.ofNat 1))) fun v0 =>
  forceG v0 fun v => Tr.setK .bad v q20 fr fun f20 =>
  k f20 h)
 (.cond 20 q20 (.reg fun _ fr h k =>
  obind (pNilck (Tr.get .bad q9 fr)) fun v0 =>
  obind (pFa 1 v0) fun v1 =>
  obind (wSt1 v1 (Tr.get .bad q2 fr) h) fun h3 =>
  k fr h3)
 (.seq (.reg fun _ fr h k =>
  obind (pEql (Tr.get .bad q13 fr) (.int .u32 (.ofNat 2))) fun v0 =>
  forceG v0 fun v => Tr.setK .bad v q26 fr fun f26 =>
  k f26 h)
 (.cond 26 q26 (.seq (.reg fun _ fr h k =>
  obind (pNilck (Tr.get .bad q9 fr)) fun v0 =>
  obind (pFa 3 v0) fun v1 =>
  obind (rLd1 v1 h) fun v2 =>
  obind (pAnd v2 (.int .u32 (.ofNat 1))) fun v3 =>
  obind (pEql v3 (.int .u32 (.ofNat 0))) fun v4 =>
  forceG v4 fun v => Tr.setK .bad v q33 fr fun f33 =>
  k f33 h)
 (.cond 33 q33 (.seq (.reg fun _ fr h k =>
  obind (pNilck (Tr.get .bad q9 fr)) fun v0 =>
  obind (pFa 2 v0) fun v1 =>
  obind (wSt1 v1 (Tr.get .bad q2 fr) h) fun h3 =>
  k fr h3)
 (.seq (.reg fun _ fr h k =>
  obind (pNilck (Tr.get .bad q9 fr)) fun v0 =>
  obind (pFa 3 v0) fun v1 =>
  obind (rLd1 v1 h) fun v2 =>
  obind (pOr v2 (.int .u32 (.ofNat 1))) fun v3 =>
  obind (pNilck (Tr.get .bad q9 fr)) fun v4 =>
  obind (pFa 3 v4) fun v5 =>
  obind (wSt1 v5 v3 h) fun h7 =>
  k fr h7)
 (.reg fun call fr h k =>
  obind (pNilck (Tr.get .bad q0 fr)) fun v0 =>
  obind (pFa 1 v0) fun v1 =>
  obind (pAdd (Tr.get .bad q3 fr) (.int .i64 (.ofNat 32))) fun v2 =>
  call q108 [v1, (.int .i64 (.ofNat 5)), v2] h fun _ h4 =>
  k fr h4)))
 .skip))
 (.seq (.reg fun _ fr h k =>
  obind (pEql (Tr.get .bad q13 fr) (.int .u32 (.ofNat 3))) fun v0 =>
  forceG v0 fun v => Tr.setK .bad v q52 fr fun f52 =>
  k f52 h)
 (.cond 52 q52 (.reg fun _ fr h k =>
  obind (pNilck (Tr.get .bad q9 fr)) fun v0 =>
  obind (pFa 3 v0) fun v1 =>
  obind (rLd1 v1 h) fun v2 =>
  obind (pAnd (Tr.get .bad q2 fr) (.int .u32 (.ofNat 6))) fun v3 =>
  obind (pAndNot v2 v3) fun v4 =>
  obind (pNilck (Tr.get .bad q9 fr)) fun v5 =>
  obind (pFa 3 v5) fun v6 =>
  obind (wSt1 v6 v4 h) fun h8 =>
  k fr h8)
 .skip))))))))))
 (.seq (.reg fun _ fr h k =>
  obind (pLss (Tr.get .bad q1 fr) (.int .u32 (.ofNat 4))) fun v0 =>
  forceG v0 fun v => Tr.setK .bad v q8 fr fun f8 =>
  k f8 h)
 .ret)))), resF [.t 8]⟩
theorem g97_ok : Comp Tryz.prog Tryz.f97 4 [8, 9, 13, 14, 20, 26, 33, 52] g97 := ⟨_, [.t 8], rfl, by kernel_rfl, by decide, by kernel_rfl, by kernel_rfl, rfl, rfl⟩
/-- (*pianola/wheel.Wheel).Next -/
def g98 : GFunc := ⟨1, (.seq (.reg fun _ fr h k =>
  forceG (.int .i64 (.ofNat 0)) fun v => Tr.setK .bad v q2 fr fun f2 =>
  forceG (.bool false) fun v => Tr.setK .bad v q3 f2 fun f3 =>
  k f3 h)
 (.seq (.seq (.reg fun _ fr h k =>
  obind (pNilck (Tr.get .bad q0 fr)) fun v0 =>
  obind (pFa 0 v0) fun v1 =>
  obind (rLd1 v1 h) fun v2 =>
  obind (pLenS v2) fun v3 =>
  obind (pEql v3 (.int .i64 (.ofNat 0))) fun v4 =>
  forceG v4 fun v => Tr.setK .bad v q9 fr fun f9 =>
  k f9 h)
 (.cond 9 q9 (.seq (.reg fun _ fr h k =>
  forceG (.int .i64 (.ofNat 0)) fun v => Tr.setK .bad v q2 fr fun f2 =>
  forceG (.bool false) fun v => Tr.setK .bad v q3 f2 fun f3 =>
  k f3 h)
 .ret)
 .skip))
 (.seq (.reg fun _ fr h k =>
  obind (pNilck (Tr.get .bad q0 fr)) fun v0 =>
  obind (pFa 0 v0) fun v1 =>
  obind (rLd1 v1 h) fun v2 =>
  obind (pIdxS 3 v2 (.int .i64 (.ofNat 0))) fun v3 =>
  obind (pFa 0 v3) fun v4 =>
  obind (rLd1 v4 h) fun v5 =>
  forceG v5 fun v => Tr.setK .bad v q2 fr fun f2 =>
  forceG (.bool true) fun v => Tr.setK .bad v q3 f2 fun f3 =>
  k f3 h)
 .ret))), resF [.t 2, .t 3]⟩
theorem g98_ok : Comp Tryz.prog Tryz.f98 1 [2, 3, 9] g98 := ⟨_, [.t 2, .t 3], rfl, by kernel_rfl, by decide, by kernel_rfl, by kernel_rfl, rfl, rfl⟩
/-- (*pianola/lines.Lines).Raised -/
def g99 : GFunc := ⟨1, (.seq (.reg fun _ fr h k =>
  forceG (.bool false) fun v => Tr.setK .bad v q2 fr fun f2 =>
  k f2 h)
 (.seq (.reg fun _ fr h k =>
  obind (pNilck (Tr.get .bad q0 fr)) fun v0 =>
  obind (pFa 0 v0) fun v1 =>
  obind (rLd1 v1 h) fun v2 =>
  obind (pNilck (Tr.get .bad q0 fr)) fun v3 =>
  obind (pFa 1 v3) fun v4 =>
  obind (rLd1 v4 h) fun v5 =>
  obind (pAnd v2 v5) fun v6 =>
  obind (pNeq v6 (.int .u32 (.ofNat 0))) fun v7 =>
  forceG v7 fun v => Tr.setK .bad v q2 fr fun f2 =>
  k f2 h)
 .ret)), resF [.t 2]⟩
theorem g99_ok : Comp Tryz.prog Tryz.f99 1 [2] g99 := ⟨_, [.t 2], rfl, by kernel_rfl, by decide, by kernel_rfl, by kernel_rfl, rfl, rfl⟩
/-- (*pianola/wheel.Wheel).All -/
def g100 : GFunc := ⟨1, (.seq (.reg fun _ fr h k =>
  forceG .nils fun v => Tr.setK .bad v q2 fr fun f2 =>
  k f2 h)
 (.seq (.reg fun call fr h k =>
  obind (pNilck (Tr.get .bad q0 fr)) fun v0 =>
  obind (pFa 0 v0) fun v1 =>
  obind (rLd1 v1 h) fun v2 =>
  call q145 [v2] h fun v3 h4 =>
  forceG v3 fun v => Tr.setK .bad v q2 fr fun f2 =>
  k f2 h4)
 .ret)), resF [.t 2]⟩
theorem g100_ok : Comp Tryz.prog Tryz.f100 1 [2] g100 := ⟨_, [.t 2], rfl, by kernel_rfl, by decide, by kernel_rfl, by kernel_rfl, rfl, rfl⟩
/-- (*pianola/uart.Uart).Out -/
def g101 : GFunc := ⟨1, (.seq (.reg fun _ fr h k =>
  forceG .nils fun v => Tr.setK .bad v q2 fr fun f2 =>
  k f2 h)
 (.seq (.reg fun call fr h k =>
  obind (pNilck (Tr.get .bad q0 fr)) fun v0 =>
  obind (pFa 6 v0) fun v1 =>
  obind (rLd1 v1 h) fun v2 =>
  call q146 [v2] h fun v3 h4 =>
  forceG v3 fun v => Tr.setK .bad v q2 fr fun f2 =>
  k f2 h4)
 .ret)), resF [.t 2]⟩
theorem g101_ok : Comp Tryz.prog Tryz.f101 1 [2] g101 := ⟨_, [.t 2], rfl, by kernel_rfl, by decide, by kernel_rfl, by kernel_rfl, rfl, rfl⟩
/-- (*pianola/disk.Disk).Bytes -/
def g102 : GFunc := ⟨1, (.seq (.reg fun _ fr h k =>
  forceG .nils fun v => Tr.setK .bad v q2 fr fun f2 =>
  k f2 h)
 (.seq (.reg fun call fr h k =>
  obind (pNilck (Tr.get .bad q0 fr)) fun v0 =>
  obind (pFa 3 v0) fun v1 =>
  obind (rLd1 v1 h) fun v2 =>
  call q146 [v2] h fun v3 h4 =>
  forceG v3 fun v => Tr.setK .bad v q2 fr fun f2 =>
  k f2 h4)
 .ret)), resF [.t 2]⟩
theorem g102_ok : Comp Tryz.prog Tryz.f102 1 [2] g102 := ⟨_, [.t 2], rfl, by kernel_rfl, by decide, by kernel_rfl, by kernel_rfl, rfl, rfl⟩
/-- slices.Delete[[]pianola/api.Event,pianola/api.Event] -/
def g103 : GFunc := ⟨3, (.seq (.reg fun _ fr h k =>
  forceG .nils fun v => Tr.setK .bad v q6 fr fun f6 =>
  k f6 h)
 (.seq (.reg fun _ fr h k =>
  obind (pLenS (Tr.get .bad q0 fr)) fun v0 =>
  obind (pSlS 3 (some (Tr.get .bad q1 fr)) (some (Tr.get .bad q2 fr)) (some v0) (Tr.get .bad q0 fr)) fun _ =>
  k fr h)
 (.seq (.seq (.reg fun _ fr h k =>
  obind (pEql (Tr.get .bad q1 fr) (Tr.get .bad q2 fr)) fun v0 =>
  forceG v0 fun v => Tr.setK .bad v q16 fr fun f16 =>
  k f16 h)
 (.cond 16 q16 (.seq (.reg fun _ fr h k =>
  forceG (Tr.get .bad q0 fr) fun v => Tr.setK .bad v q6 fr fun f6 =>
  k f6 h)
 .ret)
 .skip))
 (.seq (.reg fun _ fr h k =>
  obind (pLenS (Tr.get .bad q0 fr)) fun v0 =>
  forceG v0 fun v => Tr.setK .bad v q7 fr fun f7 =>
  k f7 h)
 (.seq (.reg fun _ fr h k =>
  obind (pSlS 3 none (some (Tr.get .bad q1 fr)) none (Tr.get .bad q0 fr)) fun v0 =>
  obind (pSlS 3 (some (Tr.get .bad q2 fr)) none none (Tr.get .bad q0 fr)) fun v1 =>
  obind2 (nAppend 3 24 none v0 v1 h) fun v2 h3 =>
  forceG v2 fun v => Tr.setK .bad v q0 fr fun f0 =>
  k f0 h3)
 (.seq (.reg fun _ fr h k =>
  obind (pLenS (Tr.get .bad q0 fr)) fun v0 =>
  obind (pSlS 3 (some v0) (some (Tr.get .bad q7 fr)) none (Tr.get .bad q0 fr)) fun v1 =>
  obind2 (nClear [.int .i64 (.ofNat 0), .int .i64 (.ofNat 0), .int .i64 (.ofNat 0)] 3 none v1 h) fun _ h3 =>
  k fr h3)
 (.seq (.reg fun _ fr h k =>
  forceG (Tr.get .bad q0 fr) fun v => Tr.setK .bad v q6 fr fun f6 =>
  k f6 h)
 .ret))))))), resF [.t 6]⟩
theorem g103_ok : Comp Tryz.prog Tryz.f103 3 [0, 6, 7, 16] g103 := ⟨_, [.t 6], rfl, by kernel_rfl, by decide, by kernel_rfl, by kernel_rfl, rfl, rfl⟩
/-- (*pianola/timer.Timer).Fire -/
def g104 : GFunc := ⟨2, (.seq (.reg fun _ fr h k =>
  obind (pNilck (Tr.get .bad q0 fr)) fun v0 =>
  obind (pFa 4 v0) fun v1 =>
  obind (wSt1 v1 (.int .u32 (.ofNat 1)) h) fun h3 =>
  k fr h3)
 (.seq (.reg fun _ fr h k =>
  obind (pNilck (Tr.get .bad q0 fr)) fun v0 =>
  obind (pFa 2 v0) fun v1 =>
  obind (rLd1 v1 h) fun v2 =>
  obind (pAnd v2 (.int .u32 (.ofNat 2))) fun v3 =>
  obind (pNeq v3 (.int .u32 (.ofNat 0))) fun v4 =>
  forceG v4 fun v => Tr.setK .bad v q12 fr fun f12 =>
  k f12 h)
 (.cond 12 q12 (.reg fun call fr h k =>
  call q138 [(Tr.get .bad q0 fr), (Tr.get .bad q1 fr)] h fun _ h1 =>
  k fr h1)
 (.reg fun _ fr h k =>
  obind (pNilck (Tr.get .bad q0 fr)) fun v0 =>
  obind (pFa 2 v0) fun v1 =>
  obind (rLd1 v1 h) fun v2 =>
  obind (pAndNot v2 (.int .u32 (.ofNat 1))) fun v3 =>
  obind (pNilck (Tr.get .bad q0 fr)) fun v4 =>
  obind (pFa 2 v4) fun v5 =>
  obind (wSt1 v5 v3 h) fun h7 =>
  k fr h7)))), resF []⟩
theorem g104_ok : Comp Tryz.prog Tryz.f104 2 [12] g104 := ⟨_, [], rfl, by kernel_rfl, by decide, by kernel_rfl, by kernel_rfl, rfl, rfl⟩
/-- (*pianola/uart.Uart).Fire -/
def g105 : GFunc := ⟨2, (.seq (.seq (.reg fun call fr h k =>
  obind (pNilck (Tr.get .bad q0 fr)) fun v0 =>
  obind (pFa 3 v0) fun v1 =>
  obind (rLd1 v1 h) fun v2 =>
  call q132 [v2] h fun v3 h4 =>
  obind (pExt 0 v3) fun v4 =>
  obind (pExt 1 v3) fun v5 =>
  forceG v4 fun v => Tr.setK .bad v q4 fr fun f4 =>
  forceG v5 fun v => Tr.setK .bad v q5 f4 fun f5 =>
  k f5 h4)
 (.seq (.reg fun _ fr h k =>
  guardC (Tr.get .bad q5 fr) true h (fun k => k (Tr.get .bad q0 fr) h) fun v0 h1 =>
  guardC (Tr.get .bad q5 fr) true h1 (fun k => obind (pNilck v0) fun v => k v h1) fun v1 h2 =>
  guardC (Tr.get .bad q5 fr) true h2 (fun k => obind (pFa 6 v1) fun v => k v h2) fun v2 h3 =>
  guardC (Tr.get .bad q5 fr) true h3 (fun k => obind (rLd1 v2 h3) fun v => k v h3) fun v3 h4 =>
  guardC (Tr.get .bad q5 fr) true h4 (fun k => obind (pLenS v3) fun v => k v h4) fun v4 h5 =>
  guardC (Tr.get .bad q5 fr) true h5 (fun k => obind (pLss v4 (.int .i64 (.ofNat 65536))) fun v => k v h5) fun v5 h6 =>
  obind (pPick (Tr.get .bad q5 fr) v5 (.bool false)) fun v6 =>
  forceG v6 fun v => Tr.setK .bad v q22 fr fun f22 =>
  k f22 h6)
 (.cond 22 q22 (.reg fun _ fr h k =>
  obind (pNilck (Tr.get .bad q0 fr)) fun v0 =>
  obind (pFa 6 v0) fun v1 =>
  obind (rLd1 v1 h) fun v2 =>
  obind2 (nBuildS (rep [.int .u8 (.ofNat 0)] 1) 1 1 (some (.u8, 8)) [(0, 1, (Tr.get .bad q4 fr))] h) fun v3 h4 =>
  obind2 (nAppend 1 1 (some (.u8, 8)) v2 v3 h4) fun v4 h5 =>
  obind (pNilck (Tr.get .bad q0 fr)) fun v5 =>
  obind (pFa 6 v5) fun v6 =>
  obind (wSt1 v6 v4 h5) fun h8 =>
  k fr h8)
 .skip)))
 (.seq (.reg fun _ fr h k =>
  obind (pNilck (Tr.get .bad q0 fr)) fun v0 =>
  obind (pFa 3 v0) fun v1 =>
  obind (rLd1 v1 h) fun v2 =>
  obind (rLenC v2 h) fun v3 =>
  obind (pGtr v3 (.int .i64 (.ofNat 0))) fun v4 =>
  forceG v4 fun v => Tr.setK .bad v q38 fr fun f38 =>
  k f38 h)
 (.cond 38 q38 (.reg fun call fr h k =>
  call q141 [(Tr.get .bad q0 fr), (Tr.get .bad q1 fr)] h fun _ h1 =>
  k fr h1)
 .skip))), resF []⟩
theorem g105_ok : Comp Tryz.prog Tryz.f105 2 [4, 5, 22, 38] g105 := ⟨_, [], rfl, by kernel_rfl, by decide, by kernel_rfl, by kernel_rfl, rfl, rfl⟩
/-- (*pianola/dma.Dma).Fire -/
def g106 : GFunc := ⟨2, (.seq (.reg fun _ fr h k =>
  obind (pNilck (Tr.get .bad q0 fr)) fun v0 =>
  obind (pFa 6 v0) fun v1 =>
  obind (rLd1 v1 h) fun v2 =>
  obind (pAndNot v2 (.int .u32 (.ofNat 1))) fun v3 =>
  obind (pOr v3 (.int .u32 (.ofNat 2))) fun v4 =>
  obind (pNilck (Tr.get .bad q0 fr)) fun v5 =>
  obind (pFa 6 v5) fun v6 =>
  obind (wSt1 v6 v4 h) fun h8 =>
  k fr h8)
 (.seq (.reg fun call fr h k =>
  call q147 [(Tr.get .bad q0 fr)] h fun v0 h1 =>
  obind (pNot v0) fun v1 =>
  forceG v1 fun v => Tr.setK .bad v q15 fr fun f15 =>
  k f15 h1)
 (.cond 15 q15 (.reg fun _ fr h k =>
  obind (pNilck (Tr.get .bad q0 fr)) fun v0 =>
  obind (pFa 6 v0) fun v1 =>
  obind (rLd1 v1 h) fun v2 =>
  obind (pOr v2 (.int .u32 (.ofNat 4))) fun v3 =>
  obind (pNilck (Tr.get .bad q0 fr)) fun v4 =>
  obind (pFa 6 v4) fun v5 =>
  obind (wSt1 v5 v3 h) fun h7 =>
  k fr h7)
 .skip))), resF []⟩
theorem g106_ok : Comp Tryz.prog Tryz.f106 2 [15] g106 := ⟨_, [], rfl, by kernel_rfl, by decide, by kernel_rfl, by kernel_rfl, rfl, rfl⟩
/-- (*pianola/disk.Disk).Fire -/
def g107 : GFunc := ⟨2, (.seq (.reg fun _ fr h k =>
  obind (pNilck (Tr.get .bad q0 fr)) fun v0 =>
  obind (pFa 7 v0) fun v1 =>
  obind (rLd1 v1 h) fun v2 =>
  obind (pAndNot v2 (.int .u32 (.ofNat 1))) fun v3 =>
  obind (pOr v3 (.int .u32 (.ofNat 2))) fun v4 =>
  obind (pNilck (Tr.get .bad q0 fr)) fun v5 =>
  obind (pFa 7 v5) fun v6 =>
  obind (wSt1 v6 v4 h) fun h8 =>
  k fr h8)
 (.seq (.reg fun call fr h k =>
  call q148 [(Tr.get .bad q0 fr)] h fun v0 h1 =>
  obind (pNot v0) fun v1 =>
  forceG v1 fun v => Tr.setK .bad v q15 fr fun f15 =>
  k f15 h1)
 (.cond 15 q15 (.reg fun _ fr h k =>
  obind (pNilck (Tr.get .bad q0 fr)) fun v0 =>
  obind (pFa 7 v0) fun v1 =>
  obind (rLd1 v1 h) fun v2 =>
  obind (pOr v2 (.int .u32 (.ofNat 4))) fun v3 =>
  obind (pNilck (Tr.get .bad q0 fr)) fun v4 =>
  obind (pFa 7 v4) fun v5 =>
  obind (wSt1 v5 v3 h) fun h7 =>
  k fr h7)
 .skip))), resF []⟩
theorem g107_ok : Comp Tryz.prog Tryz.f107 2 [15] g107 := ⟨_, [], rfl, by kernel_rfl, by decide, by kernel_rfl, by kernel_rfl, rfl, rfl⟩
end
end Go.Ev
